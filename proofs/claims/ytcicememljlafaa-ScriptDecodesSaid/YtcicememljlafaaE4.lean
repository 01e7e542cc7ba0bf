/- Walks: Check, by the program. -/
import Derived.Test.YtcicememljlafaaE3
namespace Go.Proofs.Ytcicememljlafaa
open Go.RowKit

theorem drop_getD {α : Type} (d : α) (xs : List α) (k : Nat) (hk : k < xs.length) : xs.drop k = xs.getD k d :: xs.drop (k + 1) := by
  rw [List.drop_eq_getElem_cons hk]
  simp [List.getD_eq_getElem?_getD, hk]
theorem progsErr_drop (ps : List (List OpV)) (k : Nat) (hk : k < ps.length) : progsErr (ps.drop k) = if progErr (ps.getD k []) ≠ 0 then progErr (ps.getD k []) else progsErr (ps.drop (k + 1)) := by
  rw [drop_getD [] ps k hk, progsErr]
theorem progErr_long {p : List OpV} (h : 256 < p.length) : progErr p = 5 := by unfold progErr; rw [if_pos h]
theorem progErr_bad {p : List OpV} {o : OpV} (h : p.length ≤ 256) (ho : o ∈ p) (hb : ¬ PlainOp o) : progErr p = 2 := by unfold progErr; rw [if_neg (by omega), if_neg (fun h => hb (h o ho))]
theorem progErr_ok {p : List OpV} (h : p.length ≤ 256) (ho : ∀ o ∈ p, PlainOp o) : progErr p = 0 := (progErr_iff p).2 ⟨h, ho⟩
theorem all_of_getD {α : Type} (d : α) {xs : List α} {P : α → Prop} (h : ∀ j, j < xs.length → P (xs.getD j d)) : ∀ x ∈ xs, P x := by
  intro x hx
  obtain ⟨j, hj, rfl⟩ := List.getElem_of_mem hx
  have := h j hj
  simpa [List.getD_eq_getElem?_getD, hj] using this
section
variable {s : ScrV}
theorem chk_cfg (h : cfgErr s.cfg ≠ 0) : chkScr s = cfgErr s.cfg := by unfold chkScr; rw [if_pos h]
theorem chk_len (h : cfgErr s.cfg = 0) (hl : (s.progs.length : Int) ≠ s.cfg.clients) : chkScr s = 2 := by unfold chkScr; rw [if_neg (by simp [h]), if_pos hl]
theorem chk_progs (h : cfgErr s.cfg = 0) (hl : (s.progs.length : Int) = s.cfg.clients) {e : Int} (he : e ≠ 0) (hp : progsErr s.progs = e) : chkScr s = e := by
  unfold chkScr; rw [if_neg (by simp [h]), if_neg (by simp [hl]), if_pos (by rw [hp]; exact he), hp]
theorem chk_many (h : cfgErr s.cfg = 0) (hl : (s.progs.length : Int) = s.cfg.clients) (hp : progsErr s.progs = 0) (hk : 65535 < s.picks.length) : chkScr s = 5 := by
  unfold chkScr; rw [if_neg (by simp [h]), if_neg (by simp [hl]), if_neg (by simp [hp]), if_pos hk]
theorem chk_pick (h : cfgErr s.cfg = 0) (hl : (s.progs.length : Int) = s.cfg.clients) (hp : progsErr s.progs = 0) (hk : s.picks.length ≤ 65535) {k : Int} (hm : k ∈ s.picks) (hb : ¬ (0 ≤ k ∧ k ≤ s.cfg.clients)) : chkScr s = 2 := by
  unfold chkScr; rw [if_neg (by simp [h]), if_neg (by simp [hl]), if_neg (by simp [hp]), if_neg (by omega), if_pos (fun h => hb (h k hm))]
theorem chk_size (h : cfgErr s.cfg = 0) (hl : (s.progs.length : Int) = s.cfg.clients) (hp : progsErr s.progs = 0) (hk : s.picks.length ≤ 65535) (hm : ∀ k ∈ s.picks, 0 ≤ k ∧ k ≤ s.cfg.clients) (hs : 65536 < (encScr s).length) : chkScr s = 5 := by
  unfold chkScr; rw [if_neg (by simp [h]), if_neg (by simp [hl]), if_neg (by simp [hp]), if_neg (by omega), if_neg (fun hn => hn hm), if_pos hs]
theorem chk_fine (h : cfgErr s.cfg = 0) (hl : (s.progs.length : Int) = s.cfg.clients) (hp : progsErr s.progs = 0) (hk : s.picks.length ≤ 65535) (hm : ∀ k ∈ s.picks, 0 ≤ k ∧ k ≤ s.cfg.clients) (hs : ¬ 65536 < (encScr s).length) : chkScr s = 0 := by
  unfold chkScr; rw [if_neg (by simp [h]), if_neg (by simp [hl]), if_neg (by simp [hp]), if_neg (by omega), if_neg (fun hn => hn hm), if_neg hs]
end
theorem cfgErr_text {c : CfgV} (h : cfgErr c = 0) : c.text.size ≤ 65536 := by
  unfold cfgErr at h
  split at h
  · split at h
    · cases h
    · omega
  · cases h
/-- What is known of a script that came in. -/
structure ScrSz (s : ScrV) : Prop where
  text : s.cfg.text.size ≤ 9223372036854775807
  progs : s.progs.length ≤ 9223372036854775807
  lens : ∀ p ∈ s.progs, p.length ≤ 9223372036854775807
  picks : s.picks.length ≤ 9223372036854775807
  kinds : ∀ p ∈ s.progs, ∀ o ∈ p, 0 ≤ o.kind
abbrev scrBox (c : CfgV) (p k : Value) : Obj := .cells #[.int .i64 c.slots, .int .u64 c.gens, .int .i64 c.clients, .int .i64 c.readers, .int .i64 c.queue, .int .i64 c.batch, .int .i64 c.feed, .string c.text, p, k] 28
theorem box_cell {w : World} {b : Nat} {c : CfgV} {p k : Value} (h : w.heap[b]? = some (scrBox c p k)) :
    w.cell? ⟨b, 0, none⟩ = some (.int .i64 c.slots) ∧ w.cell? ⟨b, 1, none⟩ = some (.int .u64 c.gens) ∧ w.cell? ⟨b, 2, none⟩ = some (.int .i64 c.clients) ∧ w.cell? ⟨b, 3, none⟩ = some (.int .i64 c.readers) ∧ w.cell? ⟨b, 4, none⟩ = some (.int .i64 c.queue) ∧
    w.cell? ⟨b, 5, none⟩ = some (.int .i64 c.batch) ∧ w.cell? ⟨b, 6, none⟩ = some (.int .i64 c.feed) ∧ w.cell? ⟨b, 7, none⟩ = some (.string c.text) ∧ w.cell? ⟨b, 8, none⟩ = some p ∧ w.cell? ⟨b, 9, none⟩ = some k := by
  refine ⟨?_, ?_, ?_, ?_, ?_, ?_, ?_, ?_, ?_, ?_⟩ <;> (unfold World.cell?; rw [h]; rfl)
theorem check_bad (s : ScrV) (pv kv : Value) (w : World) (hs : s.cfg.text.size ≤ 9223372036854775807) (h : cfgErr s.cfg ≠ 0) :
    Calls Try.prog 16 #[scrVal s.cfg pv kv] w (CheckRes (chkScr s) w) := by
  rw [chk_cfg h]
  obtain ⟨⟨f0, f1, f2, f3, f4, f5, f6, txt⟩, ps, ks⟩ := s
  dsimp only at h hs ⊢
  have HC := Lib.hid (fun W : World => checkFn f0 f1 f2 f3 f4 f5 f6 txt W hs)
  generalize cfgErr ⟨f0, f1, f2, f3, f4, f5, f6, txt⟩ = e at *
  have hne : (e != 0) = true := by simpa using h
  have HB := Lib.hid (below_box w)
  go_enter Try.func16, Try.ntmps16
  go_wp2_with fail
  refine (HC.out _).mono ?_
  rintro e' w1 ⟨rfl, hb⟩
  have HB1 := Lib.hid (below_then (HB.out _) (by simp) hb)
  clear hb
  go_wp2
  go_ret
  exact ⟨rfl, HB1.out⟩
theorem cfg_clients {c : CfgV} (h : cfgErr c = 0) : 0 ≤ c.clients ∧ c.clients ≤ 8 := by
  have := cfgErr_in h
  exact this.2.1.1
theorem check_len (s : ScrV) (Ap : Option Addr) (cp : Nat) (kv : Value) (w : World) (hs : s.cfg.text.size ≤ 9223372036854775807) (h : cfgErr s.cfg = 0) (hl : (s.progs.length : Int) ≠ s.cfg.clients) :
    Calls Try.prog 16 #[scrVal s.cfg (.slice Ap s.progs.length cp) kv] w (CheckRes (chkScr s) w) := by
  rw [chk_len h hl]
  obtain ⟨⟨f0, f1, f2, f3, f4, f5, f6, txt⟩, ps, ks⟩ := s
  dsimp only at h hs hl ⊢
  have HC := Lib.hid (fun W : World => checkFn f0 f1 f2 f3 f4 f5 f6 txt W hs)
  rw [h] at HC
  generalize ps.length = n at *
  have hne : ((n : Int) != f2) = true := by simpa using hl
  have HB := Lib.hid (fun pv : Value => below_box w (scrBox ⟨f0, f1, f2, f3, f4, f5, f6, txt⟩ pv kv))
  have HN := Lib.hid (fun pv : Value => heap_alloc_new w (scrBox ⟨f0, f1, f2, f3, f4, f5, f6, txt⟩ pv kv))
  go_enter Try.func16, Try.ntmps16
  go_wp2_with fail
  refine (HC.out _).mono ?_
  rintro e' w1 ⟨rfl, hb⟩
  have HB1 := Lib.hid (below_then (HB.out _) (by simp) hb)
  have HN1 := Lib.hid ((hb.block w.heap.size (by simp)).trans (HN.out _))
  obtain ⟨q0, q1, q2, q3, q4, q5, q6, q7, q8, q9⟩ := box_cell HN1.out
  dsimp only at q2 q8
  clear hb HN HB q0 q1 q3 q4 q5 q6 q7 q9
  go_wp2
  go_ret
  exact ⟨rfl, HB1.out⟩

set_option maxHeartbeats 0 in
set_option maxRecDepth 100000 in
theorem check_main (s : ScrV) (Ap Ak : Option Addr) (cp ck : Nat) (w : World) (hz : ScrSz s) (hP : ProgsAt w w.heap.size Ap s.progs) (hK : Ints w w.heap.size Ak s.picks) (h : cfgErr s.cfg = 0) (hl : (s.progs.length : Int) = s.cfg.clients) :
    Calls Try.prog 16 #[scrVal s.cfg (.slice Ap s.progs.length cp) (.slice Ak s.picks.length ck)] w (CheckRes (chkScr s) w) := by
  obtain ⟨hz1, hz2, hz3, hz4, hz5⟩ := hz
  have hc8 := cfg_clients h
  have htx := cfgErr_text h
  have X1 := Lib.hid (fun e => chk_progs (s := s) h hl (e := e))
  have X2 := Lib.hid (chk_many h hl)
  have X3 := Lib.hid (fun hp hk k => chk_pick h hl hp hk (k := k))
  have X4 := Lib.hid (chk_size h hl)
  have X5 := Lib.hid (chk_fine h hl)
  have XL := Lib.hid (encScr_len s)
  have XP := Lib.hid (fun hp W h1 h2 h3 h4 => lengthP s.cfg s.progs s.picks Ap Ak cp ck W h1 h2 (((progsErr_iff s.progs).1 hp)) h3 h4)
  have H5 := Lib.hid hz5
  have H3 := Lib.hid (getD_len_le s.progs _ hz3)
  have HP := Lib.hid hP
  have HK := Lib.hid hK
  have HD := Lib.hid (progsErr_drop s.progs)
  clear hz3 hz5 hP hK
  generalize chkScr s = R at *
  obtain ⟨⟨f0, f1, f2, f3, f4, f5, f6, txt⟩, ps, ks⟩ := s
  dsimp only at h hl hc8 htx hz1 hz2 hz4 X1 X2 X3 X4 X5 XL XP H5 H3 HP HK HD ⊢
  have HC := Lib.hid (fun W : World => checkFn f0 f1 f2 f3 f4 f5 f6 txt W hz1)
  rw [h] at HC
  have HB := Lib.hid (fun pv kv : Value => below_box w (scrBox ⟨f0, f1, f2, f3, f4, f5, f6, txt⟩ pv kv))
  have HN := Lib.hid (fun pv kv : Value => heap_alloc_new w (scrBox ⟨f0, f1, f2, f3, f4, f5, f6, txt⟩ pv kv))
  generalize hn1 : ps.length = n1 at *
  generalize hn3 : ks.length = n3 at *
  have HN1 := Lib.hid hn1
  have HN3 := Lib.hid hn3
  have HH := Lib.hid h
  clear hn1 hn3 h
  have hne : ((n1 : Int) != f2) = false := by simp [hl]
  have h00 : ((0 : Int) != 0) = false := by decide
  go_enter Try.func16, Try.ntmps16
  go_wp2_with fail
  refine (HC.out _).mono ?_
  rintro e' w1 ⟨rfl, hb⟩
  have HB1 := Lib.hid (below_then (HB.out _ _) (by simp) hb)
  have HN1' := Lib.hid ((hb.block w.heap.size (by simp)).trans (HN.out _ _))
  obtain ⟨q0, q1, q2, q3, q4, q5, q6, q7, q8, q9⟩ := box_cell HN1'.out
  dsimp only at q2 q8
  clear hb HN HB HC q0 q1 q3 q4 q5 q6 q7 q9
  go_wp2_with fail
  clear q2 q8
  go_loopw [26] (fun i wr => ∃ k : Nat, k ≤ n1 ∧ i = .int .i64 k ∧ Hid (progsErr ps = progsErr (ps.drop k)) ∧ Hid (wr.heap[w.heap.size]? = some (scrBox ⟨f0, f1, f2, f3, f4, f5, f6, txt⟩ (.slice Ap n1 cp) (.slice Ak n3 ck))) ∧ Hid (Below w.heap.size w wr)) (fun i _ => n1 - (intOf i).toNat)
  case atStart => exact ⟨0, Nat.zero_le _, rfl, rfl, HN1'.out, HB1.out⟩
  case round =>
    obtain ⟨k, hk, rfl, HE, HX, HW⟩ := hrel
    clear HN1' HB1
    by_cases hlt : k < n1
    · obtain ⟨b, o, rfl, hb, hcx⟩ := HP.out (by rw [HN1.out]; omega)
      obtain ⟨A1, c1', hx, ha⟩ := hcx k (by rw [HN1.out]; exact hlt)
      rw [← HW.out.cell (p := ⟨b, o + k, none⟩) hb] at hx
      have HA := Lib.hid ha
      clear hcx ha
      have HDK := Lib.hid (HD.out k (by first | exact hlt | (rw [HN1.out]; exact hlt)))
      have hll := H3.out k
      have HMK := Lib.hid (H5.out _ (getD_mem [] ps k (by rw [HN1.out]; exact hlt)))
      generalize ps.getD k [] = p at *
      generalize hpl : p.length = l at *
      have HPL := Lib.hid hpl
      clear hpl
      have hki : (k : Int) < (n1 : Int) := by omega
      by_cases hlong : 256 < l
      · have h256 : (256 : Int) < (l : Int) := by omega
        have HR : Hid (R = 5) := X1.out 5 (by decide) (by rw [HE.out, HDK.out, progErr_long (by rw [HPL.out]; exact hlong)]; rfl)
        go_wp2
        go_ret
        exact ⟨by rw [HR.out]; rfl, HW.out⟩
      · have h256 : ¬ (256 : Int) < (l : Int) := by omega
        go_wp2_with fail
        go_loopw [35] (fun i wr => ∃ j : Nat, j ≤ l ∧ i = .int .i64 j ∧ Hid (∀ q, q < j → PlainOp (p.getD q noOp)) ∧ Hid (wr.heap[w.heap.size]? = some (scrBox ⟨f0, f1, f2, f3, f4, f5, f6, txt⟩ (.slice (some ⟨b, o, none⟩) n1 cp) (.slice Ak n3 ck))) ∧ Hid (Below w.heap.size w wr)) (fun i _ => l - (intOf i).toNat)
        case atStart => exact ⟨0, Nat.zero_le _, rfl, (fun q hq => absurd hq (by omega)), HX.out, HW.out⟩
        case round =>
          obtain ⟨j, hj, rfl, HQ, HX', HW'⟩ := hrel
          clear HX HW
          by_cases hjl : j < l
          · obtain ⟨b', o', rfl, hb', hop⟩ := HA.out (by rw [HPL.out]; omega)
            have hopj := (hop j (by rw [HPL.out]; exact hjl)).keep (HW'.out.block b' hb')
            clear hop
            have hjm := getD_mem noOp p j (by rw [HPL.out]; exact hjl)
            have hkk := HMK.out _ hjm
            have HBAD := Lib.hid (fun hb : ¬ PlainOp (p.getD j noOp) => progErr_bad (by rw [HPL.out]; omega) hjm hb)
            have HGD := Lib.hid (fun (q : Nat) (hq : q < j + 1) (h : PlainOp (p.getD j noOp)) => (by
              rcases Nat.lt_or_ge q j with hlt | hge
              · exact HQ.out q hlt
              · obtain rfl : q = j := by omega
                exact h : PlainOp (p.getD q noOp)))
            clear hjm
            generalize hgo : p.getD j noOp = op at *
            clear hgo
            have HPF := Lib.hid (fun W : World => plainFn op W hkk)
            obtain ⟨x0, x1, x2, x3, x4, x5, x6⟩ := op
            obtain ⟨m0, m1, m2, m3, m4, m5, m6⟩ := hopj
            dsimp only at m0 m1 m2 m3 m4 m5 m6
            have hji : (j : Int) < (l : Int) := by omega
            have HWA := Lib.hid (HW'.out.alloc HW'.out.size (.cells #[.int .u8 x0, .int .i64 x1, .int .i64 x2, .int .i64 x3, .int .u32 x4, .int .u8 x5, .string x6] 44))
            have hlt0 : w.heap.size < wr.heap.size := by
              rcases Nat.lt_or_ge w.heap.size wr.heap.size with hh | hh
              · exact hh
              · have := HX'.out; rw [Array.getElem?_eq_none hh] at this; cases this
            have HXA := Lib.hid ((Below.heap_alloc wr (.cells #[.int .u8 x0, .int .i64 x1, .int .i64 x2, .int .i64 x3, .int .u32 x4, .int .u8 x5, .string x6] 44) _ hlt0).trans HX'.out)
            by_cases hpl : PlainOp ⟨x0, x1, x2, x3, x4, x5, x6⟩
            · have HGD2 := Lib.hid (fun q hq => HGD.out q hq hpl)
              rw [plainB_yes hpl] at HPF
              clear hpl HBAD HGD
              go_wp2_with fail
              refine (HPF.out _).mono ?_
              rintro e wp ⟨rfl, hbp⟩
              have HX2 := Lib.hid ((hbp.block _ (by simp; omega)).trans HXA.out)
              have HW2 := Lib.hid (below_then HWA.out HWA.out.size hbp)
              clear hbp HPF
              go_wp2_with fail
              go_roundw
              case rel => exact ⟨j + 1, by omega, by go_num, HGD2.out, HX2.out, HW2.out⟩
              case measure => simp [intOf]; omega
            · have HR : Hid (R = 2) := X1.out 2 (by decide) (by rw [HE.out, HDK.out, HBAD.out hpl]; rfl)
              rw [plainB_no hpl] at HPF
              clear hpl HBAD HGD
              go_wp2_with fail
              refine (HPF.out _).mono ?_
              rintro e wp ⟨rfl, hbp⟩
              have HW2 := Lib.hid (below_then HWA.out HWA.out.size hbp)
              clear hbp HPF
              go_wp2_with fail
              go_ret
              exact ⟨by rw [HR.out]; rfl, HW2.out⟩
          · obtain rfl : j = l := by omega
            have HOK := Lib.hid (progErr_ok (p := p) (by rw [HPL.out]; omega) (all_of_getD noOp (by rw [HPL.out]; exact HQ.out)))
            go_wp2_with fail
            go_roundw
            case rel => exact ⟨k + 1, by omega, by go_num, by show _ = _; rw [HE.out, HDK.out, HOK.out]; rfl, HX'.out, HW'.out⟩
            case measure => simp [intOf]; omega
    · obtain rfl : k = n1 := by omega
      have HPE : Hid (progsErr ps = 0) := by show _ = _; rw [HE.out, List.drop_eq_nil_of_le (by rw [HN1.out]; omega)]; rfl
      obtain ⟨q0, q1, q2, q3, q4, q5, q6, q7, q8, q9⟩ := box_cell HX.out
      dsimp only at q0 q1 q2 q3 q4 q5 q6 q7
      by_cases hmany : 65535 < n3
      · have hmi : (65535 : Int) < (n3 : Int) := by omega
        have HR : Hid (R = 5) := X2.out HPE.out hmany
        go_wp2_with fail
        go_ret
        exact ⟨by rw [HR.out]; rfl, HW.out⟩
      · have hmi : ¬ (65535 : Int) < (n3 : Int) := by omega
        have X3' := Lib.hid (X3.out HPE.out (by omega))
        have X4' := Lib.hid (X4.out HPE.out (by omega))
        have X5' := Lib.hid (X5.out HPE.out (by omega))
        have XP' := Lib.hid (XP.out HPE.out)
        clear X1 X2 X3 X4 X5 XP
        go_wp2_with fail
        clear q0 q1 q2 q3 q4 q5 q6 q7 q8 q9
        go_loopw [51] (fun i wr => ∃ j : Nat, j ≤ n3 ∧ i = .int .i64 j ∧ Hid (∀ q, q < j → 0 ≤ ks.getD q 0 ∧ ks.getD q 0 ≤ f2) ∧ Hid (wr.heap[w.heap.size]? = some (scrBox ⟨f0, f1, f2, f3, f4, f5, f6, txt⟩ (.slice Ap k cp) (.slice Ak n3 ck))) ∧ Hid (Below w.heap.size w wr)) (fun i _ => n3 - (intOf i).toNat)
        case atStart => exact ⟨0, Nat.zero_le _, rfl, (fun q hq => absurd hq (by omega)), HX.out, HW.out⟩
        case round =>
          obtain ⟨j, hj, rfl, HQ, HX', HW'⟩ := hrel
          clear HX HW
          by_cases hjl : j < n3
          · obtain ⟨b, o, rfl, hb, hcx⟩ := HK.out (by rw [HN3.out]; omega)
            have hx := hcx j (by rw [HN3.out]; exact hjl)
            rw [← HW'.out.cell (p := ⟨b, o + j, none⟩) hb] at hx
            have X3'' := Lib.hid (X3'.out _ (getD_mem 0 ks j (by rw [HN3.out]; exact hjl)))
            have HGD := Lib.hid (fun (q : Nat) (hq : q < j + 1) (h : 0 ≤ ks.getD j 0 ∧ ks.getD j 0 ≤ f2) => (by
              rcases Nat.lt_or_ge q j with hlt | hge
              · exact HQ.out q hlt
              · obtain rfl : q = j := by omega
                exact h : 0 ≤ ks.getD q 0 ∧ ks.getD q 0 ≤ f2))
            generalize hgx : ks.getD j 0 = x at *
            clear hgx hcx
            obtain ⟨q0, q1, q2, q3, q4, q5, q6, q7, q8, q9⟩ := box_cell HX'.out
            dsimp only at q2
            clear q0 q1 q3 q4 q5 q6 q7 q8 q9
            have hji : (j : Int) < (n3 : Int) := by omega
            by_cases hx0 : x < 0
            · have HR : Hid (R = 2) := X3''.out (by omega)
              go_wp2_with fail
              go_ret
              exact ⟨by rw [HR.out]; rfl, HW'.out⟩
            · by_cases hx1 : f2 < x
              · have HR : Hid (R = 2) := X3''.out (by omega)
                go_wp2_with fail
                go_ret
                exact ⟨by rw [HR.out]; rfl, HW'.out⟩
              · have HGD2 := Lib.hid (fun q hq => HGD.out q hq (by omega))
                clear HGD
                go_wp2_with fail
                go_roundw
                case rel => exact ⟨j + 1, by omega, by go_num, HGD2.out, HX'.out, HW'.out⟩
                case measure => simp [intOf]; omega
          · obtain rfl : j = n3 := by omega
            have HM := Lib.hid (all_of_getD (P := fun x => 0 ≤ x ∧ x ≤ f2) 0 (by rw [HN3.out]; exact HQ.out))
            obtain ⟨q0, q1, q2, q3, q4, q5, q6, q7, q8, q9⟩ := box_cell HX'.out
            dsimp only at q0 q1 q2 q3 q4 q5 q6 q7
            have HPL := Lib.hid (XP'.out wr (HP.out.below HW'.out HW'.out.size) (by omega) htx (by omega))
            have X4'' := Lib.hid (X4'.out HM.out)
            have X5'' := Lib.hid (X5'.out HM.out)
            generalize hE : (encScr ⟨⟨f0, f1, f2, f3, f4, f5, f6, txt⟩, ps, ks⟩).length = E at *
            have hEL := XL.out
            clear hE
            have hel : (15 : Int) + txt.size + j + (encProgs ps).length = E := by rw [hEL]; omega
            rw [hel] at HPL
            clear hel hEL
            by_cases hbig : 65536 < E
            · have hbi : (65536 : Int) < (E : Int) := by omega
              have HR : Hid (R = 5) := X4''.out hbig
              go_wp2_with fail
              refine HPL.out.mono ?_
              rintro e wp ⟨rfl, hbp⟩
              have HW2 := Lib.hid (below_then HW'.out HW'.out.size hbp)
              clear hbp HPL
              go_wp2_with fail
              go_ret
              exact ⟨by rw [HR.out]; rfl, HW2.out⟩
            · have hbi : ¬ (65536 : Int) < (E : Int) := by omega
              have HR : Hid (R = 0) := X5''.out hbig
              go_wp2_with fail
              refine HPL.out.mono ?_
              rintro e wp ⟨rfl, hbp⟩
              have HW2 := Lib.hid (below_then HW'.out HW'.out.size hbp)
              clear hbp HPL
              go_wp2_with fail
              go_ret
              exact ⟨by rw [HR.out]; rfl, HW2.out⟩
theorem scriptCheck (s : ScrV) (Ap Ak : Option Addr) (cp ck : Nat) (w : World) (hz : ScrSz s) (hP : ProgsAt w w.heap.size Ap s.progs) (hK : Ints w w.heap.size Ak s.picks) :
    Calls Try.prog 16 #[scrVal s.cfg (.slice Ap s.progs.length cp) (.slice Ak s.picks.length ck)] w (CheckRes (chkScr s) w) := by
  by_cases h : cfgErr s.cfg = 0
  · by_cases hl : (s.progs.length : Int) = s.cfg.clients
    · exact check_main s Ap Ak cp ck w hz hP hK h hl
    · exact check_len s Ap cp _ w hz.text h hl
  · exact check_bad s _ _ w hz.text h
end Go.Proofs.Ytcicememljlafaa
