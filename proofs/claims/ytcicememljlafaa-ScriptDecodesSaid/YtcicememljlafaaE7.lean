/- Walks: Check, by the reference. -/
import Derived.Test.YtcicememljlafaaE6
namespace Go.Proofs.Ytcicememljlafaa
open Go.RowKit

theorem check_badR (s : ScrV) (pv kv : Value) (w : World) (hs : s.cfg.text.size ≤ 9223372036854775807) (h : cfgErr s.cfg ≠ 0) :
    Calls Try.prog 17 #[scrVal s.cfg pv kv] w (CheckRes (chkScr s) w) := by
  rw [chk_cfg h]
  obtain ⟨⟨f0, f1, f2, f3, f4, f5, f6, txt⟩, ps, ks⟩ := s
  dsimp only at h hs ⊢
  have HC := Lib.hid (fun W : World => checkRef f0 f1 f2 f3 f4 f5 f6 txt W hs)
  generalize cfgErr ⟨f0, f1, f2, f3, f4, f5, f6, txt⟩ = e at *
  have hne : (e != 0) = true := by simpa using h
  have HB := Lib.hid (below_box w)
  go_enter Try.func17, Try.ntmps17
  go_wp2_with fail
  refine (HC.out _).mono ?_
  rintro e' w1 ⟨rfl, hb⟩
  have HB1 := Lib.hid (below_then (HB.out _) (by simp) hb)
  clear hb
  go_wp2
  go_ret
  exact ⟨rfl, HB1.out⟩
theorem check_lenR (s : ScrV) (Ap : Option Addr) (cp : Nat) (kv : Value) (w : World) (hs : s.cfg.text.size ≤ 9223372036854775807) (h : cfgErr s.cfg = 0) (hl : (s.progs.length : Int) ≠ s.cfg.clients) :
    Calls Try.prog 17 #[scrVal s.cfg (.slice Ap s.progs.length cp) kv] w (CheckRes (chkScr s) w) := by
  rw [chk_len h hl]
  obtain ⟨⟨f0, f1, f2, f3, f4, f5, f6, txt⟩, ps, ks⟩ := s
  dsimp only at h hs hl ⊢
  have HC := Lib.hid (fun W : World => checkRef f0 f1 f2 f3 f4 f5 f6 txt W hs)
  rw [h] at HC
  generalize ps.length = n at *
  have hne : ((n : Int) != f2) = true := by simpa using hl
  have HB := Lib.hid (fun pv : Value => below_box w (scrBox ⟨f0, f1, f2, f3, f4, f5, f6, txt⟩ pv kv))
  have HN := Lib.hid (fun pv : Value => heap_alloc_new w (scrBox ⟨f0, f1, f2, f3, f4, f5, f6, txt⟩ pv kv))
  go_enter Try.func17, Try.ntmps17
  go_wp2_with fail
  refine (HC.out _).mono ?_
  rintro e' w1 ⟨rfl, hb⟩
  have HB1 := Lib.hid (below_then (HB.out _) (by simp) hb)
  have HN1 := Lib.hid ((hb.block w.heap.size (by simp)).trans (HN.out _))
  obtain ⟨q0, q1, q2, q3, q4, q5, q6, q7, q8, q9⟩ := box_cell HN1.out
  dsimp only at q2 q8
  clear hb HN HB q0 q1 q3 q4 q5 q6 q7 q9
  go_wp2
  go_ret
  exact ⟨rfl, HB1.out⟩

theorem encOp_len_le {o : OpV} (h : PlainOp o) : ((encOp o).length : Int) ≤ 775 := by
  have h1 := encFs_len_le h.text (fieldsOf o.kind)
  have h2 := (fieldsOf_bd o.kind).1
  have : (fieldsOf o.kind).length * 258 ≤ 3 * 258 := Nat.mul_le_mul_right _ h2
  simp only [encOp, List.length_append, num_len]
  omega
theorem encOps_take2 (p : List OpV) (k : Nat) (hk : k < p.length) : ((encOps (p.take (k + 1))).length : Int) = (encOps (p.take k)).length + (encOp (p.getD k noOp)).length := by
  rw [take_snoc noOp p k hk, encOps_snoc]
  simp
set_option maxHeartbeats 0 in
set_option maxRecDepth 100000 in
theorem check_mainR (s : ScrV) (Ap Ak : Option Addr) (cp ck : Nat) (w : World) (hz : ScrSz s) (hkb : ∀ p ∈ s.progs, ∀ o ∈ p, o.kind ≤ 255) (hP : ProgsAt w w.heap.size Ap s.progs) (hK : Ints w w.heap.size Ak s.picks) (h : cfgErr s.cfg = 0) (hl : (s.progs.length : Int) = s.cfg.clients) :
    Calls Try.prog 17 #[scrVal s.cfg (.slice Ap s.progs.length cp) (.slice Ak s.picks.length ck)] w (CheckRes (chkScr s) w) := by
  obtain ⟨hz1, hz2, hz3, hz4, hz5⟩ := hz
  have hc8 := cfg_clients h
  have htx := cfgErr_text h
  have X1 := Lib.hid (fun e => chk_progs (s := s) h hl (e := e))
  have X2 := Lib.hid (chk_many h hl)
  have X3 := Lib.hid (fun hp hk k => chk_pick h hl hp hk (k := k))
  have X4 := Lib.hid (chk_size h hl)
  have X5 := Lib.hid (chk_fine h hl)
  have XL := Lib.hid (encScr_len s)
  have H5 := Lib.hid (fun p hp o ho => And.intro (hz5 p hp o ho) (hkb p hp o ho))
  have H3 := Lib.hid (getD_len_le s.progs _ hz3)
  have HP := Lib.hid hP
  have HK := Lib.hid hK
  have HD := Lib.hid (progsErr_drop s.progs)
  have HT := Lib.hid (encProgs_take s.progs)
  clear hz3 hz5 hP hK hkb
  generalize chkScr s = R at *
  obtain ⟨⟨f0, f1, f2, f3, f4, f5, f6, txt⟩, ps, ks⟩ := s
  dsimp only at h hl hc8 htx hz1 hz2 hz4 X1 X2 X3 X4 X5 XL H5 H3 HP HK HD HT ⊢
  have HC := Lib.hid (fun W : World => checkRef f0 f1 f2 f3 f4 f5 f6 txt W hz1)
  rw [h] at HC
  have HB := Lib.hid (fun pv kv : Value => below_box w (scrBox ⟨f0, f1, f2, f3, f4, f5, f6, txt⟩ pv kv))
  have HN := Lib.hid (fun pv kv : Value => heap_alloc_new w (scrBox ⟨f0, f1, f2, f3, f4, f5, f6, txt⟩ pv kv))
  generalize hn1 : ps.length = n1 at *
  generalize hn3 : ks.length = n3 at *
  have HN1 := Lib.hid hn1
  have HN3 := Lib.hid hn3
  have HH := Lib.hid h
  clear hn1 hn3 h
  have hne : ((n1 : Int) != f2) = false := by simp [hl]
  have h00 : ((0 : Int) != 0) = false := by decide
  have htx' : (txt.size : Int) ≤ 65536 := by omega
  go_enter Try.func17, Try.ntmps17
  go_wp2_with fail
  refine (HC.out _).mono ?_
  rintro e' w1 ⟨rfl, hb⟩
  have HB1 := Lib.hid (below_then (HB.out _ _) (by simp) hb)
  have HN1' := Lib.hid ((hb.block w.heap.size (by simp)).trans (HN.out _ _))
  obtain ⟨q0, q1, q2, q3, q4, q5, q6, q7, q8, q9⟩ := box_cell HN1'.out
  dsimp only at q2 q7 q8
  clear hb HN HB HC q0 q1 q3 q4 q5 q6 q9
  go_wp2_with fail
  clear q2 q7 q8
  go_loopw [4, 5] (fun nv i wr => ∃ (k : Nat) (v : Int), k ≤ n1 ∧ i = .int .i64 k ∧ nv = .int .i64 v ∧ Hid (progsErr ps = progsErr (ps.drop k)) ∧ Hid (v = 15 + txt.size + (encProgs (ps.take k)).length) ∧ 0 ≤ v ∧ v ≤ 131086 + k * 200000 ∧ Hid (wr.heap[w.heap.size]? = some (scrBox ⟨f0, f1, f2, f3, f4, f5, f6, txt⟩ (.slice Ap n1 cp) (.slice Ak n3 ck))) ∧ Hid (Below w.heap.size w wr)) (fun _ i _ => n1 - (intOf i).toNat)
  case atStart => exact ⟨0, _, Nat.zero_le _, rfl, rfl, rfl, by show _ = _; simp [encProgs], by omega, by omega, HN1'.out, HB1.out⟩
  case round =>
    obtain ⟨k, v, hk, rfl, rfl, HE, HV, v0, v1, HX, HW⟩ := hrel
    clear HN1' HB1
    obtain ⟨q0, q1, q2, q3, q4, q5, q6, q7, q8, q9⟩ := box_cell HX.out
    dsimp only at q2 q7 q8 q9
    clear q0 q1 q3 q4 q5 q6
    by_cases hlt : k < n1
    · obtain ⟨b, o, rfl, hb, hcx⟩ := HP.out (by rw [HN1.out]; omega)
      obtain ⟨A1, c1', hx, ha⟩ := hcx k (by rw [HN1.out]; exact hlt)
      rw [← HW.out.cell (p := ⟨b, o + k, none⟩) hb] at hx
      have HXX : Hid (∃ b' o', b = b' ∧ o = o' ∧ w.cell? ⟨b', o' + k, none⟩ = some (.slice A1 (ps.getD k []).length c1') ∧ b' < w.heap.size) := ⟨b, o, rfl, rfl, (HW.out.cell (p := ⟨b, o + k, none⟩) hb).symm.trans hx, hb⟩
      have HA := Lib.hid ha
      clear hcx ha
      have HDK := Lib.hid (HD.out k (by first | exact hlt | (rw [HN1.out]; exact hlt)))
      have HTK := Lib.hid (HT.out k (by first | exact hlt | (rw [HN1.out]; exact hlt)))
      have hll := H3.out k
      have HMK := Lib.hid (H5.out _ (getD_mem [] ps k (by rw [HN1.out]; exact hlt)))
      generalize ps.getD k [] = p at *
      generalize hpl : p.length = l at *
      have HPL := Lib.hid hpl
      clear hpl
      have hki : (k : Int) < (n1 : Int) := by omega
      by_cases hlong : 256 < l
      · have h256 : (256 : Int) < (l : Int) := by omega
        have HR : Hid (R = 5) := X1.out 5 (by decide) (by rw [HE.out, HDK.out, progErr_long (by rw [HPL.out]; exact hlong)]; rfl)
        go_wp2
        go_ret
        exact ⟨by rw [HR.out]; rfl, HW.out⟩
      · have h256 : ¬ (256 : Int) < (l : Int) := by omega
        go_wp2_with fail
        clear q2 q7 q8 q9 hx
        go_loopw [4, 6] (fun nv i wr => ∃ (j : Nat) (v' : Int), j ≤ l ∧ i = .int .i64 j ∧ nv = .int .i64 v' ∧ Hid (∀ q, q < j → PlainOp (p.getD q noOp)) ∧ Hid (v' = v + 2 + (encOps (p.take j)).length) ∧ 0 ≤ v' ∧ v' ≤ v + 2 + j * 775 ∧ Hid (wr.heap[w.heap.size]? = some (scrBox ⟨f0, f1, f2, f3, f4, f5, f6, txt⟩ (.slice (some ⟨b, o, none⟩) n1 cp) (.slice Ak n3 ck))) ∧ Hid (Below w.heap.size w wr)) (fun _ i _ => l - (intOf i).toNat)
        case atStart => exact ⟨0, _, Nat.zero_le _, rfl, rfl, (fun q hq => absurd hq (by omega)), by show _ = _; simp [encOps], by omega, by omega, HX.out, HW.out⟩
        case round =>
          obtain ⟨j, v', hj, rfl, rfl, HQ, HV', v0', v1', HX', HW'⟩ := hrel
          clear HX HW
          obtain ⟨q0, q1, q2, q3, q4, q5, q6, q7, q8, q9⟩ := box_cell HX'.out
          skip
          clear q0 q1 q2 q3 q4 q5 q6 q7 q9
          have hx : wr.cell? ⟨b, o + k, none⟩ = some (.slice A1 l c1') := by obtain ⟨b1, o1, rfl, rfl, e1, e2⟩ := HXX.out; exact (HW'.out.cell (p := ⟨b, o + k, none⟩) e2).trans e1
          by_cases hjl : j < l
          · obtain ⟨b', o', rfl, hb', hop⟩ := HA.out (by rw [HPL.out]; omega)
            have hopj := (hop j (by rw [HPL.out]; exact hjl)).keep (HW'.out.block b' hb')
            clear hop
            have hjm := getD_mem noOp p j (by rw [HPL.out]; exact hjl)
            have hkk := HMK.out _ hjm
            have HOT := Lib.hid (encOps_take2 p j (by rw [HPL.out]; exact hjl))
            have HBAD := Lib.hid (fun hb : ¬ PlainOp (p.getD j noOp) => progErr_bad (by rw [HPL.out]; omega) hjm hb)
            have HGD := Lib.hid (fun (q : Nat) (hq : q < j + 1) (h : PlainOp (p.getD j noOp)) => (by
              rcases Nat.lt_or_ge q j with hlt | hge
              · exact HQ.out q hlt
              · obtain rfl : q = j := by omega
                exact h : PlainOp (p.getD q noOp)))
            clear hjm
            generalize hgo : p.getD j noOp = op at *
            clear hgo
            have HPF := Lib.hid (fun W : World => plainRef op W hkk.1)
            have hk0 := hkk.1
            have hk1 := hkk.2
            have hji : (j : Int) < (l : Int) := by omega
            have hlt0 : w.heap.size < wr.heap.size := heap_lt HX'.out
            by_cases hpl : PlainOp op
            · have HGD2 := Lib.hid (fun q hq => HGD.out q hq hpl)
              have hle := encOp_len_le hpl
              have htxt := hpl.text
              rw [plainB_yes hpl] at HPF
              clear hpl HBAD HGD hkk
              obtain ⟨x0, x1, x2, x3, x4, x5, x6⟩ := op
              dsimp only at hk0 hk1 htxt
              have HLR := Lib.hid (fun W : World => lenRef x0 x1 x2 x3 x4 x5 x6 W hk0 hk1 htxt)
              generalize (encOp ⟨x0, x1, x2, x3, x4, x5, x6⟩).length = z at *
              have HOA : Hid (∀ W' : World, Below wr.heap.size wr W' → OpAt W' b' (o' + j * 7) ⟨x0, x1, x2, x3, x4, x5, x6⟩) := fun W' hB => hopj.keep (hB.block b' (Nat.lt_of_lt_of_le hb' HW'.out.size))
              have HPA : Hid (∀ W' : World, Below wr.heap.size wr W' → W'.cell? ⟨b, o + k, none⟩ = some (.slice (some ⟨b', o', none⟩) l c1')) := fun W' hB => by
                obtain ⟨b1, o1, rfl, rfl, e1, e2⟩ := HXX.out
                exact (hB.cell (p := ⟨b, o + k, none⟩) (Nat.lt_of_lt_of_le e2 HW'.out.size)).trans hx
              obtain ⟨m0, m1, m2, m3, m4, m5, m6⟩ := hopj
              dsimp only at m0 m1 m2 m3 m4 m5 m6
              go_wp2_with fail
              refine (HPF.out _).mono ?_
              rintro e wp ⟨rfl, hbp⟩
              have HX2 := Lib.hid ((hbp.block _ hlt0).trans HX'.out)
              have HW2 := Lib.hid (below_then HW'.out HW'.out.size hbp)
              have hx2 := HPA.out wp hbp
              obtain ⟨m0, m1, m2, m3, m4, m5, m6⟩ := HOA.out wp hbp
              obtain ⟨q0, q1, q2, q3, q4, q5, q6, q7, q8, q9⟩ := box_cell HX2.out
              dsimp only at q8 m0 m1 m2 m3 m4 m5 m6
              clear q0 q1 q2 q3 q4 q5 q6 q7 q9
              have hsz2 : w.heap.size < wp.heap.size := heap_lt HX2.out
              clear hbp HPF
              go_wp2_with fail
              refine (HLR.out _).mono ?_
              rintro e wq ⟨rfl, hbq⟩
              have HX3 := Lib.hid ((hbq.block _ hsz2).trans HX2.out)
              have HW3 := Lib.hid (below_then HW2.out HW2.out.size hbq)
              clear hbq HLR q8 m0 m1 m2 m3 m4 m5 m6
              go_wp2_with fail
              go_roundw
              case rel => exact ⟨j + 1, _, by omega, by go_num, rfl, HGD2.out, by have h1 := HOT.out; have h2 := HV'.out; show _ = _; omega, by omega, by omega, HX3.out, HW3.out⟩
              case measure => simp [intOf]; omega
            · have HR : Hid (R = 2) := X1.out 2 (by decide) (by rw [HE.out, HDK.out, HBAD.out hpl]; rfl)
              rw [plainB_no hpl] at HPF
              clear hpl HBAD HGD
              obtain ⟨x0, x1, x2, x3, x4, x5, x6⟩ := op
              obtain ⟨m0, m1, m2, m3, m4, m5, m6⟩ := hopj
              dsimp only at m0 m1 m2 m3 m4 m5 m6
              go_wp2_with fail
              refine (HPF.out _).mono ?_
              rintro e wp ⟨rfl, hbp⟩
              have HW2 := Lib.hid (below_then HW'.out HW'.out.size hbp)
              clear hbp HPF
              go_wp2_with fail
              go_ret
              exact ⟨by rw [HR.out]; rfl, HW2.out⟩
          · obtain rfl : j = l := by omega
            have HOK := Lib.hid (progErr_ok (p := p) (by rw [HPL.out]; omega) (all_of_getD noOp (by rw [HPL.out]; exact HQ.out)))
            go_wp2_with fail
            go_roundw
            case rel => exact ⟨k + 1, _, by omega, by go_num, rfl, by show _ = _; rw [HE.out, HDK.out, HOK.out]; rfl, by show _ = _; have h1 := HTK.out; have h2 := HV'.out; have h3 := HV.out; rw [List.take_of_length_le (by rw [HPL.out]; omega)] at h2; omega, by omega, by omega, HX'.out, HW'.out⟩
            case measure => simp [intOf]; omega
    · obtain rfl : k = n1 := by omega
      have HPE : Hid (progsErr ps = 0) := by show _ = _; rw [HE.out, List.drop_eq_nil_of_le (by rw [HN1.out]; omega)]; rfl
      have HVV : Hid (v = 15 + txt.size + (encProgs ps).length) := by show _ = _; have := HV.out; rw [List.take_of_length_le (by rw [HN1.out]; omega)] at this; exact this
      by_cases hmany : 65535 < n3
      · have hmi : (65535 : Int) < (n3 : Int) := by omega
        have HR : Hid (R = 5) := X2.out HPE.out hmany
        go_wp2_with fail
        go_ret
        exact ⟨by rw [HR.out]; rfl, HW.out⟩
      · have hmi : ¬ (65535 : Int) < (n3 : Int) := by omega
        have X3' := Lib.hid (X3.out HPE.out (by omega))
        have X4' := Lib.hid (X4.out HPE.out (by omega))
        have X5' := Lib.hid (X5.out HPE.out (by omega))
        clear X1 X2 X3 X4 X5
        go_wp2_with fail
        clear q2 q7 q8 q9
        go_loopw [7] (fun i wr => ∃ j : Nat, j ≤ n3 ∧ i = .int .i64 j ∧ Hid (∀ q, q < j → 0 ≤ ks.getD q 0 ∧ ks.getD q 0 ≤ f2) ∧ Hid (wr.heap[w.heap.size]? = some (scrBox ⟨f0, f1, f2, f3, f4, f5, f6, txt⟩ (.slice Ap k cp) (.slice Ak n3 ck))) ∧ Hid (Below w.heap.size w wr)) (fun i _ => n3 - (intOf i).toNat)
        case atStart => exact ⟨0, Nat.zero_le _, rfl, (fun q hq => absurd hq (by omega)), HX.out, HW.out⟩
        case round =>
          obtain ⟨j, hj, rfl, HQ, HX', HW'⟩ := hrel
          clear HX HW
          obtain ⟨q0, q1, q2, q3, q4, q5, q6, q7, q8, q9⟩ := box_cell HX'.out
          dsimp only at q2 q9
          clear q0 q1 q3 q4 q5 q6 q7 q8
          by_cases hjl : j < n3
          · obtain ⟨b, o, rfl, hb, hcx⟩ := HK.out (by rw [HN3.out]; omega)
            have hx := hcx j (by rw [HN3.out]; exact hjl)
            rw [← HW'.out.cell (p := ⟨b, o + j, none⟩) hb] at hx
            have X3'' := Lib.hid (X3'.out _ (getD_mem 0 ks j (by rw [HN3.out]; exact hjl)))
            have HGD := Lib.hid (fun (q : Nat) (hq : q < j + 1) (h : 0 ≤ ks.getD j 0 ∧ ks.getD j 0 ≤ f2) => (by
              rcases Nat.lt_or_ge q j with hlt | hge
              · exact HQ.out q hlt
              · obtain rfl : q = j := by omega
                exact h : 0 ≤ ks.getD q 0 ∧ ks.getD q 0 ≤ f2))
            generalize hgx : ks.getD j 0 = x at *
            clear hgx hcx
            have hji : (j : Int) < (n3 : Int) := by omega
            by_cases hx0 : x < 0
            · have HR : Hid (R = 2) := X3''.out (by omega)
              go_wp2_with fail
              go_quiet (fail)
              go_wp2_with fail
              go_ret
              exact ⟨by rw [HR.out]; rfl, below_drewN HW'.out _⟩
            · by_cases hx1 : f2 < x
              · have HR : Hid (R = 2) := X3''.out (by omega)
                go_wp2_with fail
                go_quiet (fail)
                go_wp2_with fail
                go_ret
                exact ⟨by rw [HR.out]; rfl, below_drewN HW'.out _⟩
              · have HGD2 := Lib.hid (fun q hq => HGD.out q hq (by omega))
                clear HGD
                go_wp2_with fail
                go_quiet (fail)
                go_wp2_with fail
                go_roundw
                case rel => exact ⟨j + 1, by omega, by go_num, HGD2.out, HX'.out, below_drewN HW'.out _⟩
                case measure => simp [intOf]; omega
          · obtain rfl : j = n3 := by omega
            have HM := Lib.hid (all_of_getD (P := fun x => 0 ≤ x ∧ x ≤ f2) 0 (by rw [HN3.out]; exact HQ.out))
            have X4'' := Lib.hid (X4'.out HM.out)
            have X5'' := Lib.hid (X5'.out HM.out)
            generalize hE : (encScr ⟨⟨f0, f1, f2, f3, f4, f5, f6, txt⟩, ps, ks⟩).length = E at *
            have hEL := XL.out
            clear hE
            have hel : v + j = (E : Int) := by have := HVV.out; omega
            by_cases hbig : 65536 < E
            · have hbi : (65536 : Int) < v + (j : Int) := by omega
              have HR : Hid (R = 5) := X4''.out hbig
              go_wp2_with fail
              go_ret
              exact ⟨by rw [HR.out]; rfl, HW'.out⟩
            · have hbi : ¬ (65536 : Int) < v + (j : Int) := by omega
              have HR : Hid (R = 0) := X5''.out hbig
              go_wp2_with fail
              go_ret
              exact ⟨by rw [HR.out]; rfl, HW'.out⟩
theorem scriptCheckR (s : ScrV) (Ap Ak : Option Addr) (cp ck : Nat) (w : World) (hz : ScrSz s) (hkb : ∀ p ∈ s.progs, ∀ o ∈ p, o.kind ≤ 255) (hP : ProgsAt w w.heap.size Ap s.progs) (hK : Ints w w.heap.size Ak s.picks) :
    Calls Try.prog 17 #[scrVal s.cfg (.slice Ap s.progs.length cp) (.slice Ak s.picks.length ck)] w (CheckRes (chkScr s) w) := by
  by_cases h : cfgErr s.cfg = 0
  · by_cases hl : (s.progs.length : Int) = s.cfg.clients
    · exact check_mainR s Ap Ak cp ck w hz hkb hP hK h hl
    · exact check_lenR s Ap cp _ w hz.text h hl
  · exact check_badR s _ _ w hz.text h
end Go.Proofs.Ytcicememljlafaa
