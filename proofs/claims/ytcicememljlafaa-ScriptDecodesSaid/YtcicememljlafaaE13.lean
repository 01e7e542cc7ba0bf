/- Walks: Encode, by the reference. -/
import Derived.Test.YtcicememljlafaaE12
namespace Go.Proofs.Ytcicememljlafaa
open Go.RowKit
open Runes (bs bt)

/-- Encode in the middle of its work: the script's box, the configuration's box in block cb. -/
structure EnR (w wr : World) (cb : Nat) (c : CfgV) (pv kv : Value) : Prop where
  box : wr.heap[w.heap.size]? = some (scrBox c pv kv)
  cbox : wr.heap[cb]? = some (cfgBox c)
  bel : Below w.heap.size w wr
theorem EnR.next {w wr w' : World} {cb : Nat} {c : CfgV} {pv kv : Value} (h : EnR w wr cb c pv kv) (hb : Below wr.heap.size wr w') : EnR w w' cb c pv kv :=
  ⟨(hb.block _ (heap_lt h.box)).trans h.box, (hb.block _ (heap_lt h.cbox)).trans h.cbox, below_then h.bel h.bel.size hb⟩
theorem EnR.drew {w wr : World} {cb : Nat} {c : CfgV} {pv kv : Value} (h : EnR w wr cb c pv kv) : EnR w wr.drew cb c pv kv := ⟨h.box, h.cbox, h.bel.drew⟩
theorem enr_start {w w1 : World} (c : CfgV) (pv kv : Value) (hb : Below (w.alloc (scrBox c pv kv)).heap.size (w.alloc (scrBox c pv kv)) w1) : EnR w (w1.alloc (cfgBox c)) w1.heap.size c pv kv := by
  have hs := hb.size
  simp only [World.size_alloc] at hs
  refine ⟨?_, heap_alloc_new _ _, ?_⟩
  · rw [Below.heap_alloc _ _ _ (by omega), hb.block _ (by simp)]
    exact heap_alloc_new _ _
  · exact (below_then (below_box w _) (by simp) hb).alloc (by omega) _
abbrev enS (w : World) (cb : Nat) (f0 f1 f2 f3 f4 f5 f6 : Int) (txt : ByteArray) (pv kv : Value) (W : World) : Prop :=
  Hid (EnR w W cb ⟨f0, f1, f2, f3, f4, f5, f6, txt⟩ pv kv) ∧ W.cell? ⟨cb, 0, none⟩ = some (.int .i64 f0) ∧ W.cell? ⟨cb, 1, none⟩ = some (.int .u64 f1) ∧ W.cell? ⟨cb, 7, none⟩ = some (.string txt)
theorem enS_of {w W : World} {cb : Nat} {f0 f1 f2 f3 f4 f5 f6 : Int} {txt : ByteArray} {pv kv : Value} (h : EnR w W cb ⟨f0, f1, f2, f3, f4, f5, f6, txt⟩ pv kv) : enS w cb f0 f1 f2 f3 f4 f5 f6 txt pv kv W := by
  obtain ⟨j0, j1, j2, j3, j4, j5, j6, j7⟩ := cbox_cell h.cbox
  exact ⟨h, j0, j1, j7⟩
theorem enS_step {w W W' : World} {cb : Nat} {f0 f1 f2 f3 f4 f5 f6 : Int} {txt : ByteArray} {pv kv : Value} (h : enS w cb f0 f1 f2 f3 f4 f5 f6 txt pv kv W) (hb : Below W.heap.size W W') : enS w cb f0 f1 f2 f3 f4 f5 f6 txt pv kv W' := enS_of (h.1.out.next hb)
theorem enS_get {w W : World} {cb : Nat} {f0 f1 f2 f3 f4 f5 f6 : Int} {txt : ByteArray} {pv kv : Value} (h : enS w cb f0 f1 f2 f3 f4 f5 f6 txt pv kv W) : EnR w W cb ⟨f0, f1, f2, f3, f4, f5, f6, txt⟩ pv kv := h.1.out
theorem conv_row59 {W : World} {B n c : Nat} {A : Option Addr} {l : List Int} (hl : BL l) (hown : W.ownsRow B 5 1 (.slice A n c) l.length (l.map (Value.int .u8))) (h0 : 0 < l.length) :
    (convert 59 9 (.slice A n c)).run Try.prog W = .ok (.string (bs l)) W := by
  obtain ⟨g, cap, hv, _, hlt⟩ := hown.form h0
  have hA : A = some ⟨g, 0, none⟩ := by injection hv
  have hn : n = l.length := by injection hv
  subst hA hn
  have := run_convert_bytes_back (P := Try.prog) W 59 9 5 ⟨g, 0, none⟩ c (l.map fun i => UInt8.ofNat i.toNat) Try.underlying59 und5 und9 (by
    intro j hj
    have hj' : j < l.length := by simpa using hj
    have hx := hl l[j] (List.getElem_mem hj')
    simp only [List.getElem_map, UInt8.toNat_ofNat']
    have e : ((l[j].toNat % 2 ^ 8 : Nat) : Int) = l[j] := by omega
    rw [e]
    exact hown.cells (g := g) rfl j (.int .u8 l[j]) (by simp [hj']))
  simpa [bs] using this
@[go_sem] theorem ix65_0 (w : World) (a b c d e : Int) : (Instr.index 65 (.agg #[.int .i64 a, .int .i64 b, .int .i64 c, .int .i64 d, .int .i64 e]) (.int .i64 0)).run Try.prog w = .ok (.int .i64 a) w := by kernel_rfl
@[go_sem] theorem ix65_1 (w : World) (a b c d e : Int) : (Instr.index 65 (.agg #[.int .i64 a, .int .i64 b, .int .i64 c, .int .i64 d, .int .i64 e]) (.int .i64 1)).run Try.prog w = .ok (.int .i64 b) w := by kernel_rfl
@[go_sem] theorem ix65_2 (w : World) (a b c d e : Int) : (Instr.index 65 (.agg #[.int .i64 a, .int .i64 b, .int .i64 c, .int .i64 d, .int .i64 e]) (.int .i64 2)).run Try.prog w = .ok (.int .i64 c) w := by kernel_rfl
@[go_sem] theorem ix65_3 (w : World) (a b c d e : Int) : (Instr.index 65 (.agg #[.int .i64 a, .int .i64 b, .int .i64 c, .int .i64 d, .int .i64 e]) (.int .i64 3)).run Try.prog w = .ok (.int .i64 d) w := by kernel_rfl
@[go_sem] theorem ix65_4 (w : World) (a b c d e : Int) : (Instr.index 65 (.agg #[.int .i64 a, .int .i64 b, .int .i64 c, .int .i64 d, .int .i64 e]) (.int .i64 4)).run Try.prog w = .ok (.int .i64 e) w := by kernel_rfl
theorem conv_nil59 (w : World) : (convert 59 9 (.slice none 0 0)).run Try.prog w = .ok (.string ⟨#[]⟩) w := by kernel_rfl
theorem EnR.keep {w wr w' : World} {cb lim : Nat} {c : CfgV} {pv kv : Value} (h : EnR w wr cb c pv kv) (hb : Below lim wr w') (h1 : w.heap.size < lim) (h2 : cb < lim) : EnR w w' cb c pv kv :=
  ⟨(hb.block _ h1).trans h.box, (hb.block _ h2).trans h.cbox, h.bel.trans (hb.mono (Nat.le_of_lt h1))⟩
theorem below_row {W w1 : World} {lim n : Nat} {v : Value} {vs : List Value} {O : Obj} (hl : lim ≤ W.heap.size) (hown : W.ownsRow lim 5 1 v n vs) (hg : (W.alloc O).grownBy w1 v.ownBlock) : Below lim W w1 := by
  have hs := hg.size
  simp only [World.size_alloc] at hs
  refine ⟨hg.os, hg.tape, hg.output, by omega, fun k hk => ?_⟩
  rw [hg.block k (by simp; omega) (fun e => by have := (World.ownsRow.lt hown k e.symm).1; omega)]
  exact Below.heap_alloc _ _ _ (by omega)
theorem num_one (x : Int) : num x 1 = [IntKind.u8.wrap x] := by rw [wrap_u8]; simp [num]
theorem encodeBadR (s : ScrV) (Ap Ak : Option Addr) (cp ck : Nat) (w : World) (hz : ScrSz s) (hkb : ∀ p ∈ s.progs, ∀ o ∈ p, o.kind ≤ 255) (hP : ProgsAt w w.heap.size Ap s.progs) (hK : Ints w w.heap.size Ak s.picks) (hc : chkScr s ≠ 0) :
    Calls Try.prog 15 #[scrVal s.cfg (.slice Ap s.progs.length cp) (.slice Ak s.picks.length ck)] w (EncResV s w) := by
  unfold EncResV
  rw [if_neg hc]
  have HC := Lib.hid (fun o : Obj => scriptCheckR s Ap Ak cp ck (w.alloc o) hz hkb (hP.below (below_box w o) (by simp)) (hK.below (below_box w o) (by simp)))
  generalize chkScr s = e at *
  have hne : (e != 0) = true := by simpa using hc
  generalize s.progs.length = n1 at *
  generalize s.picks.length = n3 at *
  generalize s.cfg = c at *
  obtain ⟨f0, f1, f2, f3, f4, f5, f6, txt⟩ := c
  have HB := Lib.hid (below_box w)
  clear hz hP hK hc hkb
  go_enter Try.func15, Try.ntmps15
  go_wp2_with fail
  refine (HC.out _).mono ?_
  rintro e' w1 ⟨rfl, hb⟩
  have HB1 := Lib.hid (below_then (HB.out _) (by simp) hb)
  clear hb HC
  go_wp2_with fail
  go_ret2
  exact ⟨rfl, HB1.out⟩

set_option maxHeartbeats 0 in
set_option maxRecDepth 100000 in
theorem encodeOkR (s : ScrV) (Ap Ak : Option Addr) (cp ck : Nat) (w : World) (hz : ScrSz s) (hkb : ∀ p ∈ s.progs, ∀ o ∈ p, o.kind ≤ 255) (hP : ProgsAt w w.heap.size Ap s.progs) (hK : Ints w w.heap.size Ak s.picks) (hc : chkScr s = 0) (hty : ScrTy s) :
    Calls Try.prog 15 #[scrVal s.cfg (.slice Ap s.progs.length cp) (.slice Ak s.picks.length ck)] w (EncResV s w) := by
  have hok := (chk_iff s).1 hc
  have HC := Lib.hid (fun o : Obj => scriptCheckR s Ap Ak cp ck (w.alloc o) hz hkb (hP.below (below_box w o) (by simp)) (hK.below (below_box w o) (by simp)))
  unfold EncResV
  rw [if_pos hc]
  rw [hc] at HC ⊢
  clear hz hc hkb
  obtain ⟨hcfg, hlen, hprogs, hpk, hpick, hsize⟩ := hok
  have hci := cfgErr_in hcfg
  have H5 := Lib.hid (five_bd hcfg)
  have hszl := encScr_len s
  have HT := Lib.hid hty
  have HG := Lib.hid hprogs
  have HPK := Lib.hid hpick
  have HP := Lib.hid hP
  have HK := Lib.hid hK
  have HS0 := Lib.hid (fun w1 pv kv => enr_start (w := w) (w1 := w1) s.cfg pv kv)
  have HEE : Hid (encScr s = encCfg s.cfg ++ encProgs s.progs ++ num s.picks.length 2 ++ encPicks s.picks) := rfl
  have hc8 := cfg_clients hcfg
  clear hty hprogs hpick hP hK
  generalize encScr s = ES at *
  obtain ⟨c, ps, ks⟩ := s
  dsimp only at hcfg hlen hpk hszl HG HPK HP HK HS0 HEE H5 HC hci hc8 ⊢
  have HP1 := Lib.hid (encProgs_take3 ps)
  have HP2 := Lib.hid (encProgs_pre ps)
  have HP3 := Lib.hid (encPicks_take ks)
  have HFV := Lib.hid (enc_five c)
  have HFT := Lib.hid (encPicks_take (five c))
  have HCL := Lib.hid (encCfg_len c)
  have HKL := Lib.hid (fun j => encPicks_len (ks.take j))
  generalize hn1 : ps.length = n1 at *
  generalize hn3 : ks.length = n3 at *
  have HN1 := Lib.hid hn1
  have HN3 := Lib.hid hn3
  clear hn1 hn3 hcfg
  obtain ⟨⟨⟨s1, s2⟩, g1, g2⟩, ⟨⟨c1, c2⟩, r1, r2⟩, ⟨q1, q2⟩, ⟨b1, b2⟩, e1, e2⟩ := hci
  have ht16 : c.text.size ≤ 65536 := by omega
  have htl : c.text.size + 15 + (encProgs ps).length + n3 ≤ 65536 := by omega
  have HTL := Lib.hid htl
  have hn8 : n1 ≤ 8 := by omega
  clear hlen hszl hsize htl
  obtain ⟨f0, f1, f2, f3, f4, f5, f6, txt⟩ := c
  dsimp only at s1 s2 g1 g2 c1 c2 r1 r2 q1 q2 b1 b2 e1 e2 ht16 HTL HCL HFV HC HS0 hc8
  have hu0 := u64w f0 (by omega) (by omega)
  go_enter Try.func15, Try.ntmps15
  go_wp2_with fail
  refine (HC.out _).mono ?_
  rintro e' w1 ⟨rfl, hb⟩
  have HS := Lib.hid (HS0.out w1 _ _ hb)
  have hbs := hb.size
  simp only [World.size_alloc] at hbs
  have HXB := Lib.hid ((hb.block w.heap.size (by simp)).trans (heap_alloc_new w _))
  obtain ⟨k0, k1, k2, k3, k4, k5, k6, k7, k8, k9⟩ := box_cell (c := ⟨f0, f1, f2, f3, f4, f5, f6, txt⟩) HXB.out
  dsimp only at k0 k1 k2 k3 k4 k5 k6 k7
  clear hb HS0 HC
  go_upto_region 5 with fail
  clear k0 k1 k2 k3 k4 k5 k6 k7 k8 k9 HXB
  generalize w1.alloc (cfgBox ⟨f0, f1, f2, f3, f4, f5, f6, txt⟩) = W1 at *
  generalize w1.heap.size = cb at *
  have P2 := Lib.hid (fun W => put2 f0 W (by omega) (by omega))
  have P4 := Lib.hid (fun W => put4 f1 W (by omega) (by omega))
  unfold PutRes at P2 P4
  have HY : Hid (bs (num f0 2) ++ bs (num f1 4) = bs (num f0 2 ++ num f1 4)) := bs_app _ _
  have hy2 : (bs (num f0 2)).size = 2 := by rw [bs_size, num_len]
  have hy4 : (bs (num f1 4)).size = 4 := by rw [bs_size, num_len]
  generalize bs (num f0 2) = y2 at *
  generalize bs (num f1 4) = y4 at *
  go_region_held3 (fun w' => enS w cb f0 f1 f2 f3 f4 f5 f6 txt (.slice Ap n1 cp) (.slice Ak n3 ck) w')
    (first
      | (with_reducible assumption)
      | (with_reducible exact enS_of HS.out.drew)
      | (with_reducible refine enS_step ?_ hgrow; with_reducible assumption)
      | (with_reducible refine enS_step ?_ hgrow; with_reducible exact enS_of HS.out.drew))
    (first
      | (go_at_call 36; with_reducible refine (P2.out _).mono ?_; rintro e w3 ⟨rfl, hgrow⟩)
      | (go_at_call 36; with_reducible refine (P4.out _).mono ?_; rintro e w3 ⟨rfl, hgrow⟩))
  have HS3 := Lib.hid (enS_get (W := w3) (by assumption))
  have ht0 : (y2 ++ y4).size = 6 := by rw [ByteArray.size_append]; omega
  generalize y2 ++ y4 = t0 at *
  clear P2 P4 hy2 hy4 HS
  obtain ⟨j0, j1, j2, j3, j4, j5, j6, j7⟩ := cbox_cell HS3.out.cbox
  dsimp only at j2 j3 j4 j5 j6
  clear j0 j1 j7
  go_wp2_with fail
  clear j2 j3 j4 j5 j6
  go_loopw [6, 39] (fun sv i wr => ∃ (q : Nat) (t : ByteArray), q ≤ 5 ∧ i = .int .i64 q ∧ sv = .string t ∧ t.size = 6 + q ∧ Hid (t = bs (num f0 2 ++ num f1 4 ++ encPicks ((five ⟨f0, f1, f2, f3, f4, f5, f6, txt⟩).take q))) ∧ Hid (EnR w wr cb ⟨f0, f1, f2, f3, f4, f5, f6, txt⟩ (.slice Ap n1 cp) (.slice Ak n3 ck))) (fun _ i _ => 5 - (intOf i).toNat)
  case atStart => exact ⟨0, _, by omega, rfl, rfl, by omega, by have := HY.out; show _ = _; rw [this]; simp [encPicks], HS3.out⟩
  case round =>
    obtain ⟨q, t, hq, rfl, rfl, hts, HT1, HQ⟩ := hrel
    clear HS3 ht0
    by_cases hq5 : q < 5
    · have HTQ := Lib.hid (HFT.out q hq5)
      have hq4 : q = 0 ∨ q = 1 ∨ q = 2 ∨ q = 3 ∨ q = 4 := by omega
      rcases hq4 with rfl | rfl | rfl | rfl | rfl
      · have hu := u64w f2 (by omega) (by omega)
        have P1 := Lib.hid (fun W => put1 f2 W (by omega) (by omega))
        unfold PutRes at P1
        have HY1 : Hid (t ++ bs (num f2 1) = bs (num f0 2 ++ num f1 4 ++ encPicks ((five ⟨f0, f1, f2, f3, f4, f5, f6, txt⟩).take 1))) := by
          show _ = _
          rw [HTQ.out, HT1.out, bs_app, List.append_assoc]; rfl
        have hys : (bs (num f2 1)).size = 1 := by rw [bs_size, num_len]
        generalize bs (num f2 1) = y at *
        go_wp2_with fail
        refine (P1.out _).mono ?_
        rintro e w5 ⟨rfl, hb5⟩
        have HS5 := Lib.hid (HQ.out.next hb5)
        clear hb5 P1
        go_wp2_with fail
        go_roundw
        case rel => exact ⟨1, _, by omega, by go_num, rfl, by rw [ByteArray.size_append]; omega, HY1.out, HS5.out⟩
        case measure => simp [intOf]
      · have hu := u64w f3 (by omega) (by omega)
        have P1 := Lib.hid (fun W => put1 f3 W (by omega) (by omega))
        unfold PutRes at P1
        have HY1 : Hid (t ++ bs (num f3 1) = bs (num f0 2 ++ num f1 4 ++ encPicks ((five ⟨f0, f1, f2, f3, f4, f5, f6, txt⟩).take 2))) := by
          show _ = _
          rw [HTQ.out, HT1.out, bs_app, List.append_assoc]; rfl
        have hys : (bs (num f3 1)).size = 1 := by rw [bs_size, num_len]
        generalize bs (num f3 1) = y at *
        go_wp2_with fail
        refine (P1.out _).mono ?_
        rintro e w5 ⟨rfl, hb5⟩
        have HS5 := Lib.hid (HQ.out.next hb5)
        clear hb5 P1
        go_wp2_with fail
        go_roundw
        case rel => exact ⟨2, _, by omega, by go_num, rfl, by rw [ByteArray.size_append]; omega, HY1.out, HS5.out⟩
        case measure => simp [intOf]
      · have hu := u64w f4 (by omega) (by omega)
        have P1 := Lib.hid (fun W => put1 f4 W (by omega) (by omega))
        unfold PutRes at P1
        have HY1 : Hid (t ++ bs (num f4 1) = bs (num f0 2 ++ num f1 4 ++ encPicks ((five ⟨f0, f1, f2, f3, f4, f5, f6, txt⟩).take 3))) := by
          show _ = _
          rw [HTQ.out, HT1.out, bs_app, List.append_assoc]; rfl
        have hys : (bs (num f4 1)).size = 1 := by rw [bs_size, num_len]
        generalize bs (num f4 1) = y at *
        go_wp2_with fail
        refine (P1.out _).mono ?_
        rintro e w5 ⟨rfl, hb5⟩
        have HS5 := Lib.hid (HQ.out.next hb5)
        clear hb5 P1
        go_wp2_with fail
        go_roundw
        case rel => exact ⟨3, _, by omega, by go_num, rfl, by rw [ByteArray.size_append]; omega, HY1.out, HS5.out⟩
        case measure => simp [intOf]
      · have hu := u64w f5 (by omega) (by omega)
        have P1 := Lib.hid (fun W => put1 f5 W (by omega) (by omega))
        unfold PutRes at P1
        have HY1 : Hid (t ++ bs (num f5 1) = bs (num f0 2 ++ num f1 4 ++ encPicks ((five ⟨f0, f1, f2, f3, f4, f5, f6, txt⟩).take 4))) := by
          show _ = _
          rw [HTQ.out, HT1.out, bs_app, List.append_assoc]; rfl
        have hys : (bs (num f5 1)).size = 1 := by rw [bs_size, num_len]
        generalize bs (num f5 1) = y at *
        go_wp2_with fail
        refine (P1.out _).mono ?_
        rintro e w5 ⟨rfl, hb5⟩
        have HS5 := Lib.hid (HQ.out.next hb5)
        clear hb5 P1
        go_wp2_with fail
        go_roundw
        case rel => exact ⟨4, _, by omega, by go_num, rfl, by rw [ByteArray.size_append]; omega, HY1.out, HS5.out⟩
        case measure => simp [intOf]
      · have hu := u64w f6 (by omega) (by omega)
        have P1 := Lib.hid (fun W => put1 f6 W (by omega) (by omega))
        unfold PutRes at P1
        have HY1 : Hid (t ++ bs (num f6 1) = bs (num f0 2 ++ num f1 4 ++ encPicks ((five ⟨f0, f1, f2, f3, f4, f5, f6, txt⟩).take 5))) := by
          show _ = _
          rw [HTQ.out, HT1.out, bs_app, List.append_assoc]; rfl
        have hys : (bs (num f6 1)).size = 1 := by rw [bs_size, num_len]
        generalize bs (num f6 1) = y at *
        go_wp2_with fail
        refine (P1.out _).mono ?_
        rintro e w5 ⟨rfl, hb5⟩
        have HS5 := Lib.hid (HQ.out.next hb5)
        clear hb5 P1
        go_wp2_with fail
        go_roundw
        case rel => exact ⟨5, _, by omega, by go_num, rfl, by rw [ByteArray.size_append]; omega, HY1.out, HS5.out⟩
        case measure => simp [intOf]
    · obtain rfl : q = 5 := by omega
      have P2 := Lib.hid (fun W => put2 txt.size W (by omega) (by omega))
      unfold PutRes at P2
      have HY1 : Hid (t ++ (bs (num txt.size 2) ++ txt) = bs (encCfg ⟨f0, f1, f2, f3, f4, f5, f6, txt⟩)) := by
        show _ = _
        rw [← HFV.out, HT1.out, ← bs_app _ (encText txt)]
        congr 1
        unfold encText
        rw [← bs_app, bs_bytesL]
      have hu := u64w txt.size (by omega) (by omega)
      have hys : (bs (num txt.size 2)).size = 2 := by rw [bs_size, num_len]
      generalize bs (num txt.size 2) = y at *
      have hct1 : ¬ 9223372036854775807 < 2 + txt.size := by omega
      have hct2 : ¬ 9223372036854775807 < 11 + (2 + txt.size) := by omega
      go_wp2_with fail
      go_region_held3 (fun w' => enS w cb f0 f1 f2 f3 f4 f5 f6 txt (.slice Ap n1 cp) (.slice Ak n3 ck) w')
        (first
          | (with_reducible assumption)
          | (with_reducible exact enS_of HQ.out.drew)
          | (with_reducible refine enS_step ?_ hgrow; with_reducible assumption)
          | (with_reducible refine enS_step ?_ hgrow; with_reducible exact enS_of HQ.out.drew))
        (first
          | (go_at_call 36; with_reducible refine (P2.out _).mono ?_; rintro e w6 ⟨rfl, hgrow⟩))
      have HS6 := Lib.hid (enS_get (W := w6) (by assumption))
      have hty : (t ++ (y ++ txt)).size ≤ 65549 := by rw [ByteArray.size_append, ByteArray.size_append]; omega
      generalize t ++ (y ++ txt) = t6 at *
      clear P2 hys hct1 hct2 hu hts HT1 HQ
      obtain ⟨k0, k1, k2, k3, k4, k5, k6, k7, k8, k9⟩ := box_cell HS6.out.box
      clear k0 k1 k2 k3 k4 k5 k6 k7 k9
      go_wp2_with fail
      clear k8
      generalize encCfg ⟨f0, f1, f2, f3, f4, f5, f6, txt⟩ = EC at *
      go_loopw [6, 9] (fun sv i wr => ∃ (k : Nat) (t : ByteArray), k ≤ n1 ∧ i = .int .i64 k ∧ sv = .string t ∧ Hid (t = bs (EC ++ encProgs (ps.take k))) ∧ Hid (EnR w wr cb ⟨f0, f1, f2, f3, f4, f5, f6, txt⟩ (.slice Ap n1 cp) (.slice Ak n3 ck))) (fun _ i _ => n1 - (intOf i).toNat)
      case atStart => exact ⟨0, _, Nat.zero_le _, rfl, rfl, by show _ = _; rw [HY1.out]; simp [encProgs], HS6.out⟩
      case round =>
        obtain ⟨k, t, hk, rfl, rfl, HT1, HQ⟩ := hrel
        clear HS6 HY1 hty
        obtain ⟨k0, k1, k2, k3, k4, k5, k6, k7, k8, k9⟩ := box_cell HQ.out.box
        clear k0 k1 k2 k3 k4 k5 k6 k7
        by_cases hlt : k < n1
        · obtain ⟨b, o, rfl, hb, hcx⟩ := HP.out (by rw [HN1.out]; omega)
          obtain ⟨A1, c1', hx, ha⟩ := hcx k (by rw [HN1.out]; exact hlt)
          have HXX := Lib.hid (And.intro hb hx)
          rw [← HQ.out.bel.cell (p := ⟨b, o + k, none⟩) hb] at hx
          have HA := Lib.hid ha
          clear hcx ha k9
          have HGK := Lib.hid (HG.out _ (getD_mem [] ps k (by rw [HN1.out]; exact hlt)))
          have HTK := Lib.hid (fun o ho => HT.out _ (getD_mem [] ps k (by rw [HN1.out]; exact hlt)) o ho)
          have HP1K := Lib.hid (HP1.out k (by first | exact hlt | (rw [HN1.out]; exact hlt)))
          have HP2K := Lib.hid (fun j => HP2.out k j (by first | exact hlt | (rw [HN1.out]; exact hlt)))
          generalize ps.getD k [] = p at *
          have hl256 := HGK.out.1
          generalize hpl : p.length = l at *
          have HPL := Lib.hid hpl
          clear hpl
          have hki : (k : Int) < (n1 : Int) := by omega
          have hts : t.size ≤ 70000 := by
            have h1 := HP2K.out 0
            have h2 := HTL.out
            have h3 := HCL.out
            rw [HT1.out, bs_size]
            simp only [List.length_append]; omega
          have hu := u64w l (by omega) (by omega)
          have P2 := Lib.hid (fun W => put2 l W (by omega) (by omega))
          unfold PutRes at P2
          have HY1 : Hid (t ++ bs (num l 2) = bs (EC ++ encProgs (ps.take k) ++ num l 2)) := by show _ = _; rw [HT1.out, bs_app]
          have hys : (bs (num l 2)).size = 2 := by rw [bs_size, num_len]
          generalize bs (num l 2) = y at *
          have hct : ¬ 9223372036854775807 < t.size + 2 := by omega
          go_wp2_with fail
          refine (P2.out _).mono ?_
          rintro e w7 ⟨rfl, hb7⟩
          have HS7 := Lib.hid (HQ.out.next hb7)
          clear hb7 P2 HQ hx k8
          go_wp2_with fail
          have hs7 : (t ++ y).size ≤ 70002 := by rw [ByteArray.size_append]; omega
          generalize t ++ y = t7 at *
          clear hts hct hys HT1
          go_loopw [6, 10] (fun sv i wr => ∃ (j : Nat) (t : ByteArray), j ≤ l ∧ i = .int .i64 j ∧ sv = .string t ∧ Hid (t = bs (EC ++ encProgs (ps.take k) ++ num l 2 ++ encOps (p.take j))) ∧ Hid (EnR w wr cb ⟨f0, f1, f2, f3, f4, f5, f6, txt⟩ (.slice (some ⟨b, o, none⟩) n1 cp) (.slice Ak n3 ck))) (fun _ i _ => l - (intOf i).toNat)
          case atStart => exact ⟨0, _, Nat.zero_le _, rfl, rfl, by show _ = _; rw [HY1.out]; simp [encOps], HS7.out⟩
          case round =>
            obtain ⟨j, t, hj, rfl, rfl, HT1, HQ⟩ := hrel
            clear HS7 HY1 hs7
            obtain ⟨k0, k1, k2, k3, k4, k5, k6, k7, k8, k9⟩ := box_cell HQ.out.box
            clear k0 k1 k2 k3 k4 k5 k6 k7 k9
            have hx := HXX.out.2
            rw [← HQ.out.bel.cell (p := ⟨b, o + k, none⟩) HXX.out.1] at hx
            by_cases hjl : j < l
            · obtain ⟨b', o', rfl, hb', hop⟩ := HA.out (by rw [HPL.out]; omega)
              have hopj := (hop j (by rw [HPL.out]; exact hjl)).keep (HQ.out.bel.block b' hb')
              clear hop
              have HOT := Lib.hid (encOps_take3 p j (by rw [HPL.out]; exact hjl))
              have HOZ := Lib.hid (encOps_pre p (j + 1))
              have hpo := HGK.out.2 _ (getD_mem noOp p j (by rw [HPL.out]; exact hjl))
              have hto := HTK.out _ (getD_mem noOp p j (by rw [HPL.out]; exact hjl))
              generalize p.getD j noOp = op at *
              have hts : t.size + (encOp op).length ≤ 70000 := by
                have h1 := HP2K.out (j + 1)
                have h2 := HTL.out
                have h3 := HCL.out
                rw [HT1.out, bs_size]
                rw [HOT.out] at h1
                simp only [List.length_append, num_len] at h1 ⊢; omega
              obtain ⟨x0, x1, x2, x3, x4, x5, x6⟩ := op
              have HOF := Lib.hid (fun W => opRef x0 x1 x2 x3 x4 x5 x6 W hpo hto)
              unfold PutRes at HOF
              clear hpo hto
              obtain ⟨m0, m1, m2, m3, m4, m5, m6⟩ := hopj
              dsimp only at m0 m1 m2 m3 m4 m5 m6
              have hji : (j : Int) < (l : Int) := by omega
              have HY1 : Hid (t ++ bs (encOp ⟨x0, x1, x2, x3, x4, x5, x6⟩) = bs (EC ++ encProgs (ps.take k) ++ num l 2 ++ encOps (p.take (j + 1)))) := by show _ = _; rw [HT1.out, bs_app, HOT.out]; simp only [List.append_assoc]
              have hys : (bs (encOp ⟨x0, x1, x2, x3, x4, x5, x6⟩)).size = (encOp ⟨x0, x1, x2, x3, x4, x5, x6⟩).length := bs_size _
              generalize bs (encOp ⟨x0, x1, x2, x3, x4, x5, x6⟩) = y at *
              generalize (encOp ⟨x0, x1, x2, x3, x4, x5, x6⟩).length = z at *
              have hct : ¬ 9223372036854775807 < t.size + z := by omega
              go_wp2_with fail
              refine (HOF.out _).mono ?_
              rintro e w8 ⟨rfl, hb8⟩
              have HS8 := Lib.hid (HQ.out.next hb8)
              clear hb8 HOF m0 m1 m2 m3 m4 m5 m6 HQ hx k8
              go_wp2_with fail
              go_roundw
              case rel => exact ⟨j + 1, _, by omega, by go_num, rfl, HY1.out, HS8.out⟩
              case measure => simp [intOf]; omega
            · obtain rfl : j = l := by omega
              go_wp2_with fail
              go_roundw
              case rel =>
                have hfin := HT1.out
                have hta : p.take j = p := List.take_of_length_le (by rw [HPL.out]; omega)
                rw [hta] at hfin
                have he : EC ++ encProgs (ps.take (k + 1)) = EC ++ encProgs (ps.take k) ++ num j 2 ++ encOps p := by rw [HP1K.out]; unfold encProg; rw [HPL.out]; simp
                rw [← he] at hfin
                exact ⟨k + 1, t, by omega, by go_num, rfl, hfin, HQ.out⟩
              case measure => simp [intOf]; omega
        · obtain rfl : k = n1 := by omega
          have HT2 : Hid (t = bs (EC ++ encProgs ps)) := by
            show _ = _
            rw [HT1.out, List.take_of_length_le (by rw [HN1.out]; omega)]
          have hts : t.size ≤ 70000 := by
            have h2 := HTL.out
            have h3 := HCL.out
            rw [HT2.out, bs_size]
            simp only [List.length_append]; omega
          have hu := u64w n3 (by omega) (by omega)
          have P2 := Lib.hid (fun W => put2 n3 W (by omega) (by omega))
          unfold PutRes at P2
          have HY1 : Hid (t ++ bs (num n3 2) = bs (EC ++ encProgs ps ++ num n3 2)) := by show _ = _; rw [HT2.out, bs_app]
          have hys : (bs (num n3 2)).size = 2 := by rw [bs_size, num_len]
          generalize bs (num n3 2) = y at *
          have hct : ¬ 9223372036854775807 < t.size + 2 := by omega
          go_wp2_with fail
          refine (P2.out _).mono ?_
          rintro e w9 ⟨rfl, hb9⟩
          have HS9 := Lib.hid (HQ.out.next hb9)
          clear hb9 P2 HQ k8 k9 HT1
          go_wp2_with fail
          have hs9 : (t ++ y).size ≤ 70002 := by rw [ByteArray.size_append]; omega
          generalize t ++ y = t9 at *
          clear hts hct hys HT2
          have hc1 : w.heap.size < w9.heap.size := heap_lt HS9.out.box
          have hc2 : cb < w9.heap.size := heap_lt HS9.out.cbox
          have HC12 := Lib.hid (And.intro hc1 hc2)
          clear hc1 hc2
          go_loopw [11, 12] (fun v i wr => ∃ (j : Nat) (v7 : Value), j ≤ n3 ∧ v = v7 ∧ i = .int .i64 j ∧ Hid (j = 0 → v7 = .slice none 0 0) ∧ Hid (wr.ownsRow w9.heap.size 5 1 v7 j ((encPicks (ks.take j)).map (Value.int .u8))) ∧ w9.heap.size ≤ wr.heap.size ∧ Hid (EnR w wr cb ⟨f0, f1, f2, f3, f4, f5, f6, txt⟩ (.slice Ap k cp) (.slice Ak n3 ck))) (fun _ i _ => n3 - (intOf i).toNat)
          case atStart => exact ⟨0, _, Nat.zero_le _, rfl, rfl, fun _ => rfl, by show World.ownsRow _ _ _ _ _ _ _; simpa [encPicks] using World.ownsRow_nil _ _ _ _, Nat.le_refl _, HS9.out⟩
          case round =>
            obtain ⟨j, v7, hj, rfl, rfl, HV0, HO, hlw, HQ⟩ := hrel
            clear HS9
            obtain ⟨k0, k1, k2, k3, k4, k5, k6, k7, k8, k9⟩ := box_cell HQ.out.box
            clear k0 k1 k2 k3 k4 k5 k6 k7 k8
            by_cases hjl : j < n3
            · obtain ⟨b, o, rfl, hb, hcx⟩ := HK.out (by rw [HN3.out]; omega)
              have hx := hcx j (by rw [HN3.out]; exact hjl)
              rw [← HQ.out.bel.cell (p := ⟨b, o + j, none⟩) hb] at hx
              have HTJ := Lib.hid (HP3.out j (by first | exact hjl | (rw [HN3.out]; exact hjl)))
              generalize ks.getD j 0 = x at *
              clear hcx
              have hji : (j : Int) < (n3 : Int) := by omega
              obtain ⟨A, c, rfl⟩ := own_form HO.out
              obtain ⟨i0, hi, hz0, hz1, hz2⟩ := info_parts u8_info
              go_wp2_with (at_builtin; refine wpList_append_own _ rfl _ _ 59 rfl w9.heap.size 5 i0 (.int .u8 0) 1 1 Try.underlying59 hi hz0 hz1 hz2 rfl (by decide) _ _ _ rfl (HO.out.alloc _) ⟨wr.heap.size, 0, none⟩ 1 1 [.int .u8 (IntKind.u8.wrap x)] rfl rfl (news_val _ _ _) (one_u8 _) ?c3 ?c4 ?c5 ?_)
              case c3 => unfold maxLen; omega
              case c4 => omega
              case c5 => simp; omega
              intro v' w10 hown hgrow _
              have HBL := Lib.hid (below_row hlw HO.out hgrow)
              have HS10 := Lib.hid (HQ.out.keep HBL.out HC12.out.1 HC12.out.2)
              have hsz := Nat.le_trans hlw HBL.out.size
              have HO2 : Hid (w10.ownsRow w9.heap.size 5 1 v' (j + 1) ((encPicks (ks.take (j + 1))).map (Value.int .u8))) := by
                show World.ownsRow _ _ _ _ _ _ _
                rw [HTJ.out, num_one, List.map_append]
                exact hown
              clear hown hgrow HBL HO HQ hx k9
              go_wp2_with fail
              go_roundw
              case rel => exact ⟨j + 1, _, by omega, rfl, by go_num, (fun h => by omega), HO2.out, hsz, HS10.out⟩
              case measure => simp [intOf]; omega
            · obtain rfl : j = n3 := by omega
              have HBLs : Hid (BL (encPicks ks)) := encPicks_BL ks
              have hpl : (encPicks ks).length = j := by rw [encPicks_len, HN3.out]
              have HO2 := HO.out
              rw [List.take_of_length_le (by rw [HN3.out]; omega)] at HO2
              have HF : Hid (t9 ++ bs (encPicks ks) = bs ES) := by
                show _ = _
                rw [HY1.out, bs_app, HEE.out]
              have hbz : (bs (encPicks ks)).size = j := by rw [bs_size, hpl]
              have hct : ¬ 9223372036854775807 < t9.size + j := by omega
              by_cases hz : j = 0
              · have hv := HV0.out hz
                subst hv
                have hcv := conv_nil59 wr
                have he : encPicks ks = [] := List.eq_nil_of_length_eq_zero (by omega)
                rw [he] at HF
                have HF2 : Hid (t9 ++ ⟨#[]⟩ = bs ES) := HF.out
                clear HO2 HO HF hbz he HBLs hpl HV0
                subst hz
                go_wp2_with fail
                go_ret2
                have e : t9 = bs ES := by rw [← HF2.out]; exact (ByteArray.append_empty (b := t9)).symm
                refine ⟨?_, HQ.out.bel⟩
                first
                  | (rw [← e]; rfl)
                  | (rw [← HF2.out]; rfl)
              · obtain ⟨A, c, rfl⟩ := own_form HO.out
                have hcv := conv_row59 HBLs.out (by rw [hpl]; exact HO2) (by omega)
                clear HO2 HO HBLs hpl HV0
                generalize bs (encPicks ks) = y at *
                go_wp2_with fail
                go_ret2
                exact ⟨by rw [← HF.out]; rfl, HQ.out.bel⟩
theorem scriptEncodeR (s : ScrV) (Ap Ak : Option Addr) (cp ck : Nat) (w : World) (hz : ScrSz s) (hkb : ∀ p ∈ s.progs, ∀ o ∈ p, o.kind ≤ 255) (hP : ProgsAt w w.heap.size Ap s.progs) (hK : Ints w w.heap.size Ak s.picks) (hty : ScrTy s) :
    Calls Try.prog 15 #[scrVal s.cfg (.slice Ap s.progs.length cp) (.slice Ak s.picks.length ck)] w (EncResV s w) := by
  by_cases hc : chkScr s = 0
  · exact encodeOkR s Ap Ak cp ck w hz hkb hP hK hc hty
  · exact encodeBadR s Ap Ak cp ck w hz hkb hP hK hc
end Go.Proofs.Ytcicememljlafaa
