/- Merged texts: E3, E4, E5, E6, E7. -/
import Derived.Test.YtbjadgggpkbjmaaGreatGf
import Derived.Test.YtbjadgggpkbjmaaGreatGd
namespace Go.Proofs.YtbjadgggpkbjmaaGreat
open Go.RowKit

theorem okF_zero {o : OpV} {f : Int} (h : okF o f) : uses o.kind f = false → zeroF o f := fun hu => by unfold okF at h; rw [if_neg (by simp [hu])] at h; exact h
theorem not_okF {o : OpV} {f : Int} (h : ¬ okF o f) : (uses o.kind f = true → ¬ fitF o f) ∧ (uses o.kind f = false → ¬ zeroF o f) :=
  ⟨fun hu hf => h (by unfold okF; rw [if_pos hu]; exact hf), fun hu hz => h (by unfold okF; rw [if_neg (by simp [hu])]; exact hz)⟩
theorem not_okF3 {o : OpV} {f : Int} (h : ¬ okF o f) (hf : fitF o f) : uses o.kind f = false ∧ ¬ zeroF o f := by
  have := not_okF h
  cases hu : uses o.kind f
  · exact ⟨rfl, this.2 hu⟩
  · exact absurd hf (this.1 hu)
theorem okF_fit0 {o : OpV} (h : okF o 0) : 0 ≤ o.slot ∧ o.slot ≤ 255 := by
  unfold okF at h; split at h
  · exact h
  · have : o.slot = 0 := h
    omega
theorem okF_fit1 {o : OpV} (h : okF o 1) : 0 ≤ o.pos ∧ o.pos ≤ 65535 := by
  unfold okF at h; split at h
  · exact h
  · have : o.pos = 0 := h
    omega
theorem okF_fit2 {o : OpV} (h : okF o 2) : 0 ≤ o.num ∧ o.num ≤ 65535 := by
  unfold okF at h; split at h
  · exact h
  · have : o.num = 0 := h
    omega
theorem okF_fit5 {o : OpV} (h : okF o 5) : o.text.size ≤ 256 := by
  unfold okF at h; split at h
  · exact h
  · have : o.text.size = 0 := h
    omega
theorem plain_kind (x0 x1 x2 x3 x4 x5 : Int) (x6 : ByteArray) (w : World) (h0 : 0 ≤ x0) (hk : ¬ (1 ≤ x0 ∧ x0 ≤ 16)) :
    Calls Tryz.prog 17 #[opVal ⟨x0, x1, x2, x3, x4, x5, x6⟩] w (BoolBelow false w) := by
  have HB := Lib.hid (below_box w)
  by_cases h1 : x0 < 1
  · clear hk
    go_enter Tryz.func17, Tryz.ntmps17
    go_wp2
    go_ret
    exact ⟨rfl, HB.out _⟩
  · have h2 : 16 < x0 := by omega
    clear hk
    go_enter Tryz.func17, Tryz.ntmps17
    go_wp2
    go_ret
    exact ⟨rfl, HB.out _⟩
open Classical in
noncomputable def plainB (o : OpV) : Bool := decide (PlainOp o)
theorem plainB_no {o : OpV} (h : ¬ PlainOp o) : plainB o = false := by simp [plainB, h]
theorem plainB_yes {o : OpV} (h : PlainOp o) : plainB o = true := by simp [plainB, h]
theorem plainFn (o : OpV) (w : World) (h0 : 0 ≤ o.kind) : Calls Tryz.prog 17 #[opVal o] w (BoolBelow (plainB o) w) := by
  obtain ⟨x0, x1, x2, x3, x4, x5, x6⟩ := o
  dsimp only at h0
  by_cases hk : 1 ≤ x0 ∧ x0 ≤ 16
  · by_cases c0 : okF ⟨x0, x1, x2, x3, x4, x5, x6⟩ 0
    case neg =>
      rw [plainB_no (fun h => c0 h.f0)]
      have n := not_okF c0
      exact plain_no0 x0 x1 x2 x3 x4 x5 x6 w hk.1 hk.2 n.1 n.2
    by_cases c1 : okF ⟨x0, x1, x2, x3, x4, x5, x6⟩ 1
    case neg =>
      rw [plainB_no (fun h => c1 h.f1)]
      have n := not_okF c1
      exact plain_no1 x0 x1 x2 x3 x4 x5 x6 w hk.1 hk.2 (okF_fit0 c0) (okF_zero c0) n.1 n.2
    by_cases c2 : okF ⟨x0, x1, x2, x3, x4, x5, x6⟩ 2
    case neg =>
      rw [plainB_no (fun h => c2 h.f2)]
      have n := not_okF c2
      exact plain_no2 x0 x1 x2 x3 x4 x5 x6 w hk.1 hk.2 (okF_fit0 c0) (okF_zero c0) (okF_fit1 c1) (okF_zero c1) n.1 n.2
    by_cases c3 : okF ⟨x0, x1, x2, x3, x4, x5, x6⟩ 3
    case neg =>
      rw [plainB_no (fun h => c3 h.f3)]
      have n := not_okF3 c3 trivial
      exact plain_no3 x0 x1 x2 x3 x4 x5 x6 w hk.1 hk.2 (okF_fit0 c0) (okF_zero c0) (okF_fit1 c1) (okF_zero c1) (okF_fit2 c2) (okF_zero c2) n.1 n.2
    by_cases c4 : okF ⟨x0, x1, x2, x3, x4, x5, x6⟩ 4
    case neg =>
      rw [plainB_no (fun h => c4 h.f4)]
      have n := not_okF3 c4 trivial
      exact plain_no4 x0 x1 x2 x3 x4 x5 x6 w hk.1 hk.2 (okF_fit0 c0) (okF_zero c0) (okF_fit1 c1) (okF_zero c1) (okF_fit2 c2) (okF_zero c2) (okF_zero c3) n.1 n.2
    by_cases c5 : okF ⟨x0, x1, x2, x3, x4, x5, x6⟩ 5
    case neg =>
      rw [plainB_no (fun h => c5 h.f5)]
      have n := not_okF c5
      exact plain_no5 x0 x1 x2 x3 x4 x5 x6 w hk.1 hk.2 (okF_fit0 c0) (okF_zero c0) (okF_fit1 c1) (okF_zero c1) (okF_fit2 c2) (okF_zero c2) (okF_zero c3) (okF_zero c4) n.1 n.2
    rw [plainB_yes ⟨hk, c0, c1, c2, c3, c4, c5⟩]
    exact plain_yes x0 x1 x2 x3 x4 x5 x6 w hk.1 hk.2 (okF_fit0 c0) (okF_zero c0) (okF_fit1 c1) (okF_zero c1) (okF_fit2 c2) (okF_zero c2) (okF_zero c3) (okF_zero c4) (okF_fit5 c5) (okF_zero c5)
  · rw [plainB_no (fun h => hk h.kind)]
    exact plain_kind x0 x1 x2 x3 x4 x5 x6 w h0 hk

/-! ### length -/
theorem getD_mem {α : Type} (d : α) (xs : List α) (k : Nat) (hk : k < xs.length) : xs.getD k d ∈ xs := by
  simp [List.getD_eq_getElem?_getD, hk]
theorem take_snoc {α : Type} (d : α) (xs : List α) (k : Nat) (hk : k < xs.length) : xs.take (k + 1) = xs.take k ++ [xs.getD k d] := by
  rw [List.take_succ_eq_append_getElem hk]
  simp [List.getD_eq_getElem?_getD, hk]
theorem encFs_take (o : OpV) (fs : List Int) (k : Nat) (hk : k < fs.length) : ((encFs o (fs.take (k + 1))).length : Int) = (encFs o (fs.take k)).length + szF o (fs.getD k 0) := by
  rw [take_snoc 0 fs k hk, szF_len]
  simp [encFs]
theorem encOps_take (p : List OpV) (k : Nat) (hk : k < p.length) : ((encOps (p.take (k + 1))).length : Int) = (encOps (p.take k)).length + (1 + (encFs (p.getD k noOp) (fieldsOf (p.getD k noOp).kind)).length) := by
  rw [take_snoc noOp p k hk, encOps_snoc]
  simp [encOp, num_len]
theorem encProgs_take (ps : List (List OpV)) (k : Nat) (hk : k < ps.length) : ((encProgs (ps.take (k + 1))).length : Int) = (encProgs (ps.take k)).length + (2 + (encOps (ps.getD k [])).length) := by
  rw [take_snoc [] ps k hk, encProgs_snoc]
  simp [encProg, num_len]
theorem szF_bd {o : OpV} (h : o.text.size ≤ 256) (f : Int) : 1 ≤ szF o f ∧ szF o f ≤ 258 := by
  unfold szF
  (repeat' split) <;> omega
theorem encFs_len_le {o : OpV} (h : o.text.size ≤ 256) (fs : List Int) : (encFs o fs).length ≤ fs.length * 258 := by
  induction fs with
  | nil => simp [encFs]
  | cons f fs ih =>
    have h1 := szF_bd h f
    have h2 := szF_len o f
    have e : encFs o (f :: fs) = encF o f ++ encFs o fs := by simp [encFs]
    rw [e, List.length_append, List.length_cons]
    omega
theorem encOps_len_le (p : List OpV) (h : ∀ o ∈ p, PlainOp o) : (encOps p).length ≤ p.length * 775 := by
  induction p with
  | nil => simp [encOps]
  | cons o p ih =>
    have h1 := encFs_len_le (h o (by simp)).text (fieldsOf o.kind)
    have h2 := (fieldsOf_bd o.kind).1
    have h3 := ih (fun q hq => h q (by simp [hq]))
    have e : encOps (o :: p) = encOp o ++ encOps p := by simp [encOps]
    rw [e, List.length_append, List.length_cons, encOp, List.length_append, num_len]
    have : (fieldsOf o.kind).length * 258 ≤ 3 * 258 := Nat.mul_le_mul_right _ h2
    omega
theorem encProgs_len_le (ps : List (List OpV)) (h : ∀ p ∈ ps, p.length ≤ 256 ∧ ∀ o ∈ p, PlainOp o) : (encProgs ps).length ≤ ps.length * 200000 := by
  induction ps with
  | nil => simp [encProgs]
  | cons p ps ih =>
    have h1 := encOps_len_le p (h p (by simp)).2
    have h2 := (h p (by simp)).1
    have h3 := ih (fun q hq => h q (by simp [hq]))
    have e : encProgs (p :: ps) = encProg p ++ encProgs ps := by simp [encProgs]
    rw [e, List.length_append, List.length_cons, encProg, List.length_append, num_len]
    omega
theorem opBox_new (w : World) (x0 x1 x2 x3 x4 x5 : Int) (x6 : ByteArray) : OpAt (w.alloc (.cells #[.int .u8 x0, .int .i64 x1, .int .i64 x2, .int .i64 x3, .int .u32 x4, .int .u8 x5, .string x6] 40)) w.heap.size 0 ⟨x0, x1, x2, x3, x4, x5, x6⟩ := opAt_new w x0 x1 x2 x3 x4 x5 x6
theorem fields_bd2 (k : Int) (q : Nat) (hq : q < (fieldsOf k).length) : in5 ((fieldsOf k).getD q 0) := by
  have := (fieldsOf_bd k).2 _ (getD_mem 0 (fieldsOf k) q hq)
  unfold in5; omega

theorem encProgs_take_le (ps : List (List OpV)) (h : ∀ p ∈ ps, p.length ≤ 256 ∧ ∀ o ∈ p, PlainOp o) (k : Nat) : ((encProgs (ps.take k)).length : Int) ≤ k * 200000 := by
  have h1 := encProgs_len_le (ps.take k) (fun p hp => h p (List.mem_of_mem_take hp))
  have h2 : (ps.take k).length ≤ k := by simp; omega
  omega
theorem encOps_take_le (ps : List OpV) (h : ∀ o ∈ ps, PlainOp o) (k : Nat) : ((encOps (ps.take k)).length : Int) ≤ k * 775 := by
  have h1 := encOps_len_le (ps.take k) (fun p hp => h p (List.mem_of_mem_take hp))
  have h2 : (ps.take k).length ≤ k := by simp; omega
  omega
theorem encFs_take_le {o : OpV} (h : o.text.size ≤ 256) (fs : List Int) (k : Nat) : ((encFs o (fs.take k)).length : Int) ≤ k * 258 := by
  have h1 := encFs_len_le h (fs.take k)
  have h2 : (fs.take k).length ≤ k := by simp; omega
  omega
theorem OpAt.grown {w w' : World} {b o : Nat} {x : OpV} (h : OpAt w b o x) (hg : w.grownBy w' none) : OpAt w' b o x :=
  h.keep (hg.block b (World.block_lt_of_cell? w _ h.c0) (by simp))
theorem U8s.grown {w w' : World} {A : Option Addr} {fs : List Int} (h : U8s w A fs) (hg : w.grownBy w' none) : U8s w' A fs := u8s_keep h fun q hq => hg.block q hq.lt (by simp)
theorem below_grown {B : Nat} {w0 w w' : World} (h : Below B w0 w) (hg : w.grownBy w' none) (hB : B ≤ w.heap.size) : Below B w0 w' :=
  h.trans ⟨hg.os, hg.tape, hg.output, hg.size, fun k hk => hg.block k (by omega) (by simp)⟩

set_option maxHeartbeats 0 in
set_option maxRecDepth 100000 in
theorem lengthP (cfg : CfgV) (ps : List (List OpV)) (ks : List Int) (Ap Ak : Option Addr) (cp ck : Nat) (w : World) (hP : ProgsAt w w.heap.size Ap ps) (hn : ps.length ≤ 8)
    (hl : ∀ p ∈ ps, p.length ≤ 256 ∧ ∀ o ∈ p, PlainOp o) (ht : cfg.text.size ≤ 65536) (hk : ks.length ≤ 65535) :
    Calls Tryz.prog 18 #[scrVal cfg (.slice Ap ps.length cp) (.slice Ak ks.length ck)] w (fun e w' => e = .returned (.int .i64 (15 + cfg.text.size + ks.length + (encProgs ps).length)) ∧ Below w.heap.size w w') := by
  obtain ⟨f0, f1, f2, f3, f4, f5, f6, txt⟩ := cfg
  dsimp only at ht
  have HP := Lib.hid hP
  have HL := Lib.hid hl
  have HB := Lib.hid (below_box w)
  have HLL := Lib.hid (encProgs_take_le ps hl)
  clear hP hl
  generalize hn1 : ps.length = n1 at *
  generalize ks.length = n3 at *
  have HN1 := Lib.hid hn1
  clear hn1
  have d2 : (txt.size : Int) ≤ 65536 := by omega
  have d3 : (n3 : Int) ≤ 65535 := by omega
  go_enter Tryz.func18, Tryz.ntmps18
  go_wp2
  go_loopw [3, 23] (fun nv i wr => ∃ (k : Nat) (v : Int), k ≤ n1 ∧ i = .int .i64 k ∧ nv = .int .i64 v ∧ Hid (v = 15 + txt.size + n3 + (encProgs (ps.take k)).length) ∧ 0 ≤ v ∧ v ≤ 131086 + k * 200000 ∧ Hid (Below w.heap.size w wr)) (fun _ i _ => n1 - (intOf i).toNat)
  case atStart => exact ⟨0, _, Nat.zero_le _, rfl, rfl, by show _ = _; simp [encProgs]; omega, by omega, by omega, HB.out _⟩
  case round =>
    obtain ⟨k, v, hk, rfl, rfl, HV, v0, v1, HW⟩ := hrel
    by_cases hlt : k < n1
    · obtain ⟨b, o, rfl, hb, hcx⟩ := HP.out (by rw [HN1.out]; omega)
      obtain ⟨A1, c1', hx, ha⟩ := hcx k (by rw [HN1.out]; exact hlt)
      rw [← HW.out.cell (p := ⟨b, o + k, none⟩) hb] at hx
      have HA := Lib.hid ha
      clear hcx ha
      have HPK := Lib.hid (encProgs_take ps k (by rw [HN1.out]; exact hlt))
      have HLK := Lib.hid (HL.out _ (getD_mem [] ps k (by rw [HN1.out]; exact hlt)))
      generalize ps.getD k [] = p at *
      have HTK := Lib.hid (encOps_take_le p HLK.out.2)
      have hl256 := HLK.out.1
      generalize hpl : p.length = l at *
      have HPL := Lib.hid hpl
      clear hpl
      have hki : (k : Int) < (n1 : Int) := by omega
      go_wp2
      go_loopw [3, 31] (fun nv i wr => ∃ (j : Nat) (v' : Int), j ≤ l ∧ i = .int .i64 j ∧ nv = .int .i64 v' ∧ Hid (v' = v + 2 + (encOps (p.take j)).length) ∧ 0 ≤ v' ∧ v' ≤ v + 2 + j * 775 ∧ Hid (Below w.heap.size w wr)) (fun _ i _ => l - (intOf i).toNat)
      case atStart => exact ⟨0, _, Nat.zero_le _, rfl, rfl, by show _ = _; simp [encOps], by omega, by omega, HW.out⟩
      case round =>
        obtain ⟨j, v', hj, rfl, rfl, HV', v0', v1', HW'⟩ := hrel
        by_cases hjl : j < l
        · obtain ⟨b', o', rfl, hb', hop⟩ := HA.out (by rw [HPL.out]; omega)
          have hopj := (hop j (by rw [HPL.out]; exact hjl)).keep (HW'.out.block b' hb')
          clear hop
          have HOK := Lib.hid (encOps_take p j (by rw [HPL.out]; exact hjl))
          have HPO := Lib.hid (HLK.out.2 _ (getD_mem noOp p j (by rw [HPL.out]; exact hjl)))
          generalize p.getD j noOp = op at *
          obtain ⟨x0, x1, x2, x3, x4, x5, x6⟩ := op
          obtain ⟨m0, m1, m2, m3, m4, m5, m6⟩ := hopj
          have hk1 := HPO.out.kind.1
          have hk2 := HPO.out.kind.2
          have ht6 := HPO.out.text
          dsimp only at hk1 hk2 ht6 m0 m1 m2 m3 m4 m5 m6
          have HF := Lib.hid (fun W : World => fieldsFn x0 W hk1 hk2)
          have HFT := Lib.hid (encFs_take ⟨x0, x1, x2, x3, x4, x5, x6⟩ (fieldsOf x0))
          have HFL := Lib.hid (encFs_take_le (o := ⟨x0, x1, x2, x3, x4, x5, x6⟩) ht6 (fieldsOf x0))
          have HFB := Lib.hid (fields_bd2 x0)
          have hf3 := (fieldsOf_bd x0).1
          dsimp only at HOK
          have hji : (j : Int) < (l : Int) := by omega
          have HOB := Lib.hid (opBox_new wr x0 x1 x2 x3 x4 x5 x6)
          have HWA := Lib.hid (HW'.out.alloc HW'.out.size (.cells #[.int .u8 x0, .int .i64 x1, .int .i64 x2, .int .i64 x3, .int .u32 x4, .int .u8 x5, .string x6] 40))
          have n0 := HOB.out.c0
          go_wp2_with fail
          refine (HF.out _).mono ?_
          rintro e wf ⟨A, c, rfl, hu, hg⟩
          have HO := Lib.hid (HOB.out.grown hg)
          have HU := Lib.hid hu
          have HWF := Lib.hid (below_grown HWA.out hg (by have := HW'.out.size; simp; omega))
          clear hu hg HF HOB HWA n0 m0 m1 m2 m3 m4 m5 m6
          generalize hfl : (fieldsOf x0).length = nf at *
          have HFN := Lib.hid hfl
          clear hfl
          generalize wr.heap.size = ob at *
          go_wp2_with fail
          go_loopw [3, 41] (fun nv i wr => ∃ (q : Nat) (u : Int), q ≤ nf ∧ i = .int .i64 q ∧ nv = .int .i64 u ∧ Hid (u = v' + 1 + (encFs ⟨x0, x1, x2, x3, x4, x5, x6⟩ ((fieldsOf x0).take q)).length) ∧ 0 ≤ u ∧ u ≤ v' + 1 + q * 258 ∧
            Hid (OpAt wr ob 0 ⟨x0, x1, x2, x3, x4, x5, x6⟩) ∧ Hid (U8s wr A (fieldsOf x0)) ∧ Hid (Below w.heap.size w wr)) (fun _ i _ => nf - (intOf i).toNat)
          case atStart => exact ⟨0, _, Nat.zero_le _, rfl, rfl, by show _ = _; simp [encFs], by omega, by omega, HO.out, HU.out, HWF.out⟩
          case round =>
            obtain ⟨q, u, hq, rfl, rfl, HVq, u0, u1, HOq, HUq, HWq⟩ := hrel
            clear HO HU HWF
            by_cases hqn : q < nf
            · obtain ⟨bu, ou, rfl, _, hcu⟩ := HUq.out (by rw [HFN.out]; omega)
              have hfq := hcu q (by first | exact hqn | (rw [HFN.out]; exact hqn))
              clear hcu
              have HTQ := Lib.hid (HFT.out q (by first | exact hqn | (rw [HFN.out]; exact hqn)))
              have hin := HFB.out q (by first | exact hqn | (rw [HFN.out]; exact hqn))
              generalize (fieldsOf x0).getD q 0 = f at *
              have hfb : 0 ≤ f ∧ f ≤ 5 := by unfold in5 at hin; omega
              have HS := Lib.hid (sizeFn ⟨x0, x1, x2, x3, x4, x5, x6⟩ f wr hin (by show x6.size ≤ _; omega))
              have hz := szF_bd (o := ⟨x0, x1, x2, x3, x4, x5, x6⟩) ht6 f
              clear hin
              generalize szF ⟨x0, x1, x2, x3, x4, x5, x6⟩ f = z at *
              obtain ⟨m0, m1, m2, m3, m4, m5, m6⟩ := HOq.out
              dsimp only at m0 m1 m2 m3 m4 m5 m6
              have hqi : (q : Int) < (nf : Int) := by omega
              go_wp2_with fail
              refine HS.out.mono ?_
              rintro e wz ⟨rfl, _, hg⟩
              have HO := Lib.hid (HOq.out.grown hg)
              have HU := Lib.hid (HUq.out.grown hg)
              have HWF := Lib.hid (below_grown HWq.out hg HWq.out.size)
              clear hg HS
              go_wp2_with fail
              go_roundw
              case rel => exact ⟨q + 1, _, by omega, by go_num, rfl, by show _ = _; have h1 := HTQ.out; have h2 := HVq.out; omega, by omega, by omega, HO.out, HU.out, HWF.out⟩
              case measure => simp [intOf]; omega
            · obtain rfl : q = nf := by omega
              go_wp2_with fail
              go_roundw
              case rel => exact ⟨j + 1, _, by omega, by go_num, rfl, by show _ = _; have h1 := HOK.out; have h2 := HVq.out; have h3 := HV'.out; rw [List.take_of_length_le (by rw [HFN.out]; omega)] at h2; omega, by omega, by omega, HWq.out⟩
              case measure => simp [intOf]; omega
        · obtain rfl : j = l := by omega
          go_wp2
          go_roundw
          case rel => exact ⟨k + 1, _, by omega, by go_num, rfl, by show _ = _; have h1 := HPK.out; have h2 := HV'.out; have h3 := HV.out; rw [List.take_of_length_le (by rw [HPL.out]; omega)] at h2; omega, by omega, by omega, HW'.out⟩
          case measure => simp [intOf]; omega
    · obtain rfl : k = n1 := by omega
      go_wp2
      go_ret
      have hv := HV.out
      rw [List.take_of_length_le (by rw [HN1.out]; omega)] at hv
      exact ⟨ret_int hv, HW.out⟩
end Go.Proofs.YtbjadgggpkbjmaaGreat
namespace Go.Proofs.YtbjadgggpkbjmaaGreat
open Go.RowKit

theorem drop_getD {α : Type} (d : α) (xs : List α) (k : Nat) (hk : k < xs.length) : xs.drop k = xs.getD k d :: xs.drop (k + 1) := by
  rw [List.drop_eq_getElem_cons hk]
  simp [List.getD_eq_getElem?_getD, hk]
theorem progsErr_drop (ps : List (List OpV)) (k : Nat) (hk : k < ps.length) : progsErr (ps.drop k) = if progErr (ps.getD k []) ≠ 0 then progErr (ps.getD k []) else progsErr (ps.drop (k + 1)) := by
  rw [drop_getD [] ps k hk, progsErr]
theorem progErr_long {p : List OpV} (h : 256 < p.length) : progErr p = 5 := by unfold progErr; rw [if_pos h]
theorem progErr_bad {p : List OpV} {o : OpV} (h : p.length ≤ 256) (ho : o ∈ p) (hb : ¬ PlainOp o) : progErr p = 2 := by unfold progErr; rw [if_neg (by omega), if_neg (fun h => hb (h o ho))]
theorem progErr_ok {p : List OpV} (h : p.length ≤ 256) (ho : ∀ o ∈ p, PlainOp o) : progErr p = 0 := (progErr_iff p).2 ⟨h, ho⟩
theorem all_of_getD {α : Type} (d : α) {xs : List α} {P : α → Prop} (h : ∀ j, j < xs.length → P (xs.getD j d)) : ∀ x ∈ xs, P x := by
  intro x hx
  obtain ⟨j, hj, rfl⟩ := List.getElem_of_mem hx
  have := h j hj
  simpa [List.getD_eq_getElem?_getD, hj] using this
section
variable {s : ScrV}
theorem chk_cfg (h : cfgErr s.cfg ≠ 0) : chkScr s = cfgErr s.cfg := by unfold chkScr; rw [if_pos h]
theorem chk_len (h : cfgErr s.cfg = 0) (hl : (s.progs.length : Int) ≠ s.cfg.clients) : chkScr s = 2 := by unfold chkScr; rw [if_neg (by simp [h]), if_pos hl]
theorem chk_progs (h : cfgErr s.cfg = 0) (hl : (s.progs.length : Int) = s.cfg.clients) {e : Int} (he : e ≠ 0) (hp : progsErr s.progs = e) : chkScr s = e := by
  unfold chkScr; rw [if_neg (by simp [h]), if_neg (by simp [hl]), if_pos (by rw [hp]; exact he), hp]
theorem chk_many (h : cfgErr s.cfg = 0) (hl : (s.progs.length : Int) = s.cfg.clients) (hp : progsErr s.progs = 0) (hk : 65535 < s.picks.length) : chkScr s = 5 := by
  unfold chkScr; rw [if_neg (by simp [h]), if_neg (by simp [hl]), if_neg (by simp [hp]), if_pos hk]
theorem chk_pick (h : cfgErr s.cfg = 0) (hl : (s.progs.length : Int) = s.cfg.clients) (hp : progsErr s.progs = 0) (hk : s.picks.length ≤ 65535) {k : Int} (hm : k ∈ s.picks) (hb : ¬ (0 ≤ k ∧ k ≤ s.cfg.clients)) : chkScr s = 2 := by
  unfold chkScr; rw [if_neg (by simp [h]), if_neg (by simp [hl]), if_neg (by simp [hp]), if_neg (by omega), if_pos (fun h => hb (h k hm))]
theorem chk_size (h : cfgErr s.cfg = 0) (hl : (s.progs.length : Int) = s.cfg.clients) (hp : progsErr s.progs = 0) (hk : s.picks.length ≤ 65535) (hm : ∀ k ∈ s.picks, 0 ≤ k ∧ k ≤ s.cfg.clients) (hs : 65536 < (encScr s).length) : chkScr s = 5 := by
  unfold chkScr; rw [if_neg (by simp [h]), if_neg (by simp [hl]), if_neg (by simp [hp]), if_neg (by omega), if_neg (fun hn => hn hm), if_pos hs]
theorem chk_fine (h : cfgErr s.cfg = 0) (hl : (s.progs.length : Int) = s.cfg.clients) (hp : progsErr s.progs = 0) (hk : s.picks.length ≤ 65535) (hm : ∀ k ∈ s.picks, 0 ≤ k ∧ k ≤ s.cfg.clients) (hs : ¬ 65536 < (encScr s).length) : chkScr s = 0 := by
  unfold chkScr; rw [if_neg (by simp [h]), if_neg (by simp [hl]), if_neg (by simp [hp]), if_neg (by omega), if_neg (fun hn => hn hm), if_neg hs]
end
theorem cfgErr_text {c : CfgV} (h : cfgErr c = 0) : c.text.size ≤ 65536 := by
  unfold cfgErr at h
  split at h
  · split at h
    · cases h
    · omega
  · cases h
/-- What is known of a script that came in. -/
structure ScrSz (s : ScrV) : Prop where
  text : s.cfg.text.size ≤ 9223372036854775807
  progs : s.progs.length ≤ 9223372036854775807
  lens : ∀ p ∈ s.progs, p.length ≤ 9223372036854775807
  picks : s.picks.length ≤ 9223372036854775807
  kinds : ∀ p ∈ s.progs, ∀ o ∈ p, 0 ≤ o.kind
abbrev scrBox (c : CfgV) (p k : Value) : Obj := .cells #[.int .i64 c.slots, .int .u64 c.gens, .int .i64 c.clients, .int .i64 c.readers, .int .i64 c.queue, .int .i64 c.batch, .int .i64 c.feed, .string c.text, p, k] 28
theorem box_cell {w : World} {b : Nat} {c : CfgV} {p k : Value} (h : w.heap[b]? = some (scrBox c p k)) :
    w.cell? ⟨b, 0, none⟩ = some (.int .i64 c.slots) ∧ w.cell? ⟨b, 1, none⟩ = some (.int .u64 c.gens) ∧ w.cell? ⟨b, 2, none⟩ = some (.int .i64 c.clients) ∧ w.cell? ⟨b, 3, none⟩ = some (.int .i64 c.readers) ∧ w.cell? ⟨b, 4, none⟩ = some (.int .i64 c.queue) ∧
    w.cell? ⟨b, 5, none⟩ = some (.int .i64 c.batch) ∧ w.cell? ⟨b, 6, none⟩ = some (.int .i64 c.feed) ∧ w.cell? ⟨b, 7, none⟩ = some (.string c.text) ∧ w.cell? ⟨b, 8, none⟩ = some p ∧ w.cell? ⟨b, 9, none⟩ = some k := by
  refine ⟨?_, ?_, ?_, ?_, ?_, ?_, ?_, ?_, ?_, ?_⟩ <;> (unfold World.cell?; rw [h]; rfl)
theorem check_bad (s : ScrV) (pv kv : Value) (w : World) (hs : s.cfg.text.size ≤ 9223372036854775807) (h : cfgErr s.cfg ≠ 0) :
    Calls Tryz.prog 6 #[scrVal s.cfg pv kv] w (CheckRes (chkScr s) w) := by
  rw [chk_cfg h]
  obtain ⟨⟨f0, f1, f2, f3, f4, f5, f6, txt⟩, ps, ks⟩ := s
  dsimp only at h hs ⊢
  have HC := Lib.hid (fun W : World => checkFn f0 f1 f2 f3 f4 f5 f6 txt W hs)
  generalize cfgErr ⟨f0, f1, f2, f3, f4, f5, f6, txt⟩ = e at *
  have hne : (e != 0) = true := by simpa using h
  have HB := Lib.hid (below_box w)
  go_enter Tryz.func6, Tryz.ntmps6
  go_wp2_with fail
  refine (HC.out _).mono ?_
  rintro e' w1 ⟨rfl, hb⟩
  have HB1 := Lib.hid (below_then (HB.out _) (by simp) hb)
  clear hb
  go_wp2
  go_ret
  exact ⟨rfl, HB1.out⟩
theorem cfg_clients {c : CfgV} (h : cfgErr c = 0) : 0 ≤ c.clients ∧ c.clients ≤ 8 := by
  have := cfgErr_in h
  exact this.2.1.1
theorem check_len (s : ScrV) (Ap : Option Addr) (cp : Nat) (kv : Value) (w : World) (hs : s.cfg.text.size ≤ 9223372036854775807) (h : cfgErr s.cfg = 0) (hl : (s.progs.length : Int) ≠ s.cfg.clients) :
    Calls Tryz.prog 6 #[scrVal s.cfg (.slice Ap s.progs.length cp) kv] w (CheckRes (chkScr s) w) := by
  rw [chk_len h hl]
  obtain ⟨⟨f0, f1, f2, f3, f4, f5, f6, txt⟩, ps, ks⟩ := s
  dsimp only at h hs hl ⊢
  have HC := Lib.hid (fun W : World => checkFn f0 f1 f2 f3 f4 f5 f6 txt W hs)
  rw [h] at HC
  generalize ps.length = n at *
  have hne : ((n : Int) != f2) = true := by simpa using hl
  have HB := Lib.hid (fun pv : Value => below_box w (scrBox ⟨f0, f1, f2, f3, f4, f5, f6, txt⟩ pv kv))
  have HN := Lib.hid (fun pv : Value => heap_alloc_new w (scrBox ⟨f0, f1, f2, f3, f4, f5, f6, txt⟩ pv kv))
  go_enter Tryz.func6, Tryz.ntmps6
  go_wp2_with fail
  refine (HC.out _).mono ?_
  rintro e' w1 ⟨rfl, hb⟩
  have HB1 := Lib.hid (below_then (HB.out _) (by simp) hb)
  have HN1 := Lib.hid ((hb.block w.heap.size (by simp)).trans (HN.out _))
  obtain ⟨q0, q1, q2, q3, q4, q5, q6, q7, q8, q9⟩ := box_cell HN1.out
  dsimp only at q2 q8
  clear hb HN HB q0 q1 q3 q4 q5 q6 q7 q9
  go_wp2
  go_ret
  exact ⟨rfl, HB1.out⟩

set_option maxHeartbeats 0 in
set_option maxRecDepth 100000 in
theorem check_main (s : ScrV) (Ap Ak : Option Addr) (cp ck : Nat) (w : World) (hz : ScrSz s) (hP : ProgsAt w w.heap.size Ap s.progs) (hK : Ints w w.heap.size Ak s.picks) (h : cfgErr s.cfg = 0) (hl : (s.progs.length : Int) = s.cfg.clients) :
    Calls Tryz.prog 6 #[scrVal s.cfg (.slice Ap s.progs.length cp) (.slice Ak s.picks.length ck)] w (CheckRes (chkScr s) w) := by
  obtain ⟨hz1, hz2, hz3, hz4, hz5⟩ := hz
  have hc8 := cfg_clients h
  have htx := cfgErr_text h
  have X1 := Lib.hid (fun e => chk_progs (s := s) h hl (e := e))
  have X2 := Lib.hid (chk_many h hl)
  have X3 := Lib.hid (fun hp hk k => chk_pick h hl hp hk (k := k))
  have X4 := Lib.hid (chk_size h hl)
  have X5 := Lib.hid (chk_fine h hl)
  have XL := Lib.hid (encScr_len s)
  have XP := Lib.hid (fun hp W h1 h2 h3 h4 => lengthP s.cfg s.progs s.picks Ap Ak cp ck W h1 h2 (((progsErr_iff s.progs).1 hp)) h3 h4)
  have H5 := Lib.hid hz5
  have H3 := Lib.hid (getD_len_le s.progs _ hz3)
  have HP := Lib.hid hP
  have HK := Lib.hid hK
  have HD := Lib.hid (progsErr_drop s.progs)
  clear hz3 hz5 hP hK
  generalize chkScr s = R at *
  obtain ⟨⟨f0, f1, f2, f3, f4, f5, f6, txt⟩, ps, ks⟩ := s
  dsimp only at h hl hc8 htx hz1 hz2 hz4 X1 X2 X3 X4 X5 XL XP H5 H3 HP HK HD ⊢
  have HC := Lib.hid (fun W : World => checkFn f0 f1 f2 f3 f4 f5 f6 txt W hz1)
  rw [h] at HC
  have HB := Lib.hid (fun pv kv : Value => below_box w (scrBox ⟨f0, f1, f2, f3, f4, f5, f6, txt⟩ pv kv))
  have HN := Lib.hid (fun pv kv : Value => heap_alloc_new w (scrBox ⟨f0, f1, f2, f3, f4, f5, f6, txt⟩ pv kv))
  generalize hn1 : ps.length = n1 at *
  generalize hn3 : ks.length = n3 at *
  have HN1 := Lib.hid hn1
  have HN3 := Lib.hid hn3
  have HH := Lib.hid h
  clear hn1 hn3 h
  have hne : ((n1 : Int) != f2) = false := by simp [hl]
  have h00 : ((0 : Int) != 0) = false := by decide
  go_enter Tryz.func6, Tryz.ntmps6
  go_wp2_with fail
  refine (HC.out _).mono ?_
  rintro e' w1 ⟨rfl, hb⟩
  have HB1 := Lib.hid (below_then (HB.out _ _) (by simp) hb)
  have HN1' := Lib.hid ((hb.block w.heap.size (by simp)).trans (HN.out _ _))
  obtain ⟨q0, q1, q2, q3, q4, q5, q6, q7, q8, q9⟩ := box_cell HN1'.out
  dsimp only at q2 q8
  clear hb HN HB HC q0 q1 q3 q4 q5 q6 q7 q9
  go_wp2_with fail
  clear q2 q8
  go_loopw [26] (fun i wr => ∃ k : Nat, k ≤ n1 ∧ i = .int .i64 k ∧ Hid (progsErr ps = progsErr (ps.drop k)) ∧ Hid (wr.heap[w.heap.size]? = some (scrBox ⟨f0, f1, f2, f3, f4, f5, f6, txt⟩ (.slice Ap n1 cp) (.slice Ak n3 ck))) ∧ Hid (Below w.heap.size w wr)) (fun i _ => n1 - (intOf i).toNat)
  case atStart => exact ⟨0, Nat.zero_le _, rfl, rfl, HN1'.out, HB1.out⟩
  case round =>
    obtain ⟨k, hk, rfl, HE, HX, HW⟩ := hrel
    clear HN1' HB1
    by_cases hlt : k < n1
    · obtain ⟨b, o, rfl, hb, hcx⟩ := HP.out (by rw [HN1.out]; omega)
      obtain ⟨A1, c1', hx, ha⟩ := hcx k (by rw [HN1.out]; exact hlt)
      rw [← HW.out.cell (p := ⟨b, o + k, none⟩) hb] at hx
      have HA := Lib.hid ha
      clear hcx ha
      have HDK := Lib.hid (HD.out k (by first | exact hlt | (rw [HN1.out]; exact hlt)))
      have hll := H3.out k
      have HMK := Lib.hid (H5.out _ (getD_mem [] ps k (by rw [HN1.out]; exact hlt)))
      generalize ps.getD k [] = p at *
      generalize hpl : p.length = l at *
      have HPL := Lib.hid hpl
      clear hpl
      have hki : (k : Int) < (n1 : Int) := by omega
      by_cases hlong : 256 < l
      · have h256 : (256 : Int) < (l : Int) := by omega
        have HR : Hid (R = 5) := X1.out 5 (by decide) (by rw [HE.out, HDK.out, progErr_long (by rw [HPL.out]; exact hlong)]; rfl)
        go_wp2
        go_ret
        exact ⟨by rw [HR.out]; rfl, HW.out⟩
      · have h256 : ¬ (256 : Int) < (l : Int) := by omega
        go_wp2_with fail
        go_loopw [35] (fun i wr => ∃ j : Nat, j ≤ l ∧ i = .int .i64 j ∧ Hid (∀ q, q < j → PlainOp (p.getD q noOp)) ∧ Hid (wr.heap[w.heap.size]? = some (scrBox ⟨f0, f1, f2, f3, f4, f5, f6, txt⟩ (.slice (some ⟨b, o, none⟩) n1 cp) (.slice Ak n3 ck))) ∧ Hid (Below w.heap.size w wr)) (fun i _ => l - (intOf i).toNat)
        case atStart => exact ⟨0, Nat.zero_le _, rfl, (fun q hq => absurd hq (by omega)), HX.out, HW.out⟩
        case round =>
          obtain ⟨j, hj, rfl, HQ, HX', HW'⟩ := hrel
          clear HX HW
          by_cases hjl : j < l
          · obtain ⟨b', o', rfl, hb', hop⟩ := HA.out (by rw [HPL.out]; omega)
            have hopj := (hop j (by rw [HPL.out]; exact hjl)).keep (HW'.out.block b' hb')
            clear hop
            have hjm := getD_mem noOp p j (by rw [HPL.out]; exact hjl)
            have hkk := HMK.out _ hjm
            have HBAD := Lib.hid (fun hb : ¬ PlainOp (p.getD j noOp) => progErr_bad (by rw [HPL.out]; omega) hjm hb)
            have HGD := Lib.hid (fun (q : Nat) (hq : q < j + 1) (h : PlainOp (p.getD j noOp)) => (by
              rcases Nat.lt_or_ge q j with hlt | hge
              · exact HQ.out q hlt
              · obtain rfl : q = j := by omega
                exact h : PlainOp (p.getD q noOp)))
            clear hjm
            generalize hgo : p.getD j noOp = op at *
            clear hgo
            have HPF := Lib.hid (fun W : World => plainFn op W hkk)
            obtain ⟨x0, x1, x2, x3, x4, x5, x6⟩ := op
            obtain ⟨m0, m1, m2, m3, m4, m5, m6⟩ := hopj
            dsimp only at m0 m1 m2 m3 m4 m5 m6
            have hji : (j : Int) < (l : Int) := by omega
            have HWA := Lib.hid (HW'.out.alloc HW'.out.size (.cells #[.int .u8 x0, .int .i64 x1, .int .i64 x2, .int .i64 x3, .int .u32 x4, .int .u8 x5, .string x6] 40))
            have hlt0 : w.heap.size < wr.heap.size := by
              rcases Nat.lt_or_ge w.heap.size wr.heap.size with hh | hh
              · exact hh
              · have := HX'.out; rw [Array.getElem?_eq_none hh] at this; cases this
            have HXA := Lib.hid ((Below.heap_alloc wr (.cells #[.int .u8 x0, .int .i64 x1, .int .i64 x2, .int .i64 x3, .int .u32 x4, .int .u8 x5, .string x6] 40) _ hlt0).trans HX'.out)
            by_cases hpl : PlainOp ⟨x0, x1, x2, x3, x4, x5, x6⟩
            · have HGD2 := Lib.hid (fun q hq => HGD.out q hq hpl)
              rw [plainB_yes hpl] at HPF
              clear hpl HBAD HGD
              go_wp2_with fail
              refine (HPF.out _).mono ?_
              rintro e wp ⟨rfl, hbp⟩
              have HX2 := Lib.hid ((hbp.block _ (by simp; omega)).trans HXA.out)
              have HW2 := Lib.hid (below_then HWA.out HWA.out.size hbp)
              clear hbp HPF
              go_wp2_with fail
              go_roundw
              case rel => exact ⟨j + 1, by omega, by go_num, HGD2.out, HX2.out, HW2.out⟩
              case measure => simp [intOf]; omega
            · have HR : Hid (R = 2) := X1.out 2 (by decide) (by rw [HE.out, HDK.out, HBAD.out hpl]; rfl)
              rw [plainB_no hpl] at HPF
              clear hpl HBAD HGD
              go_wp2_with fail
              refine (HPF.out _).mono ?_
              rintro e wp ⟨rfl, hbp⟩
              have HW2 := Lib.hid (below_then HWA.out HWA.out.size hbp)
              clear hbp HPF
              go_wp2_with fail
              go_ret
              exact ⟨by rw [HR.out]; rfl, HW2.out⟩
          · obtain rfl : j = l := by omega
            have HOK := Lib.hid (progErr_ok (p := p) (by rw [HPL.out]; omega) (all_of_getD noOp (by rw [HPL.out]; exact HQ.out)))
            go_wp2_with fail
            go_roundw
            case rel => exact ⟨k + 1, by omega, by go_num, by show _ = _; rw [HE.out, HDK.out, HOK.out]; rfl, HX'.out, HW'.out⟩
            case measure => simp [intOf]; omega
    · obtain rfl : k = n1 := by omega
      have HPE : Hid (progsErr ps = 0) := by show _ = _; rw [HE.out, List.drop_eq_nil_of_le (by rw [HN1.out]; omega)]; rfl
      obtain ⟨q0, q1, q2, q3, q4, q5, q6, q7, q8, q9⟩ := box_cell HX.out
      dsimp only at q0 q1 q2 q3 q4 q5 q6 q7
      by_cases hmany : 65535 < n3
      · have hmi : (65535 : Int) < (n3 : Int) := by omega
        have HR : Hid (R = 5) := X2.out HPE.out hmany
        go_wp2_with fail
        go_ret
        exact ⟨by rw [HR.out]; rfl, HW.out⟩
      · have hmi : ¬ (65535 : Int) < (n3 : Int) := by omega
        have X3' := Lib.hid (X3.out HPE.out (by omega))
        have X4' := Lib.hid (X4.out HPE.out (by omega))
        have X5' := Lib.hid (X5.out HPE.out (by omega))
        have XP' := Lib.hid (XP.out HPE.out)
        clear X1 X2 X3 X4 X5 XP
        go_wp2_with fail
        clear q0 q1 q2 q3 q4 q5 q6 q7 q8 q9
        go_loopw [51] (fun i wr => ∃ j : Nat, j ≤ n3 ∧ i = .int .i64 j ∧ Hid (∀ q, q < j → 0 ≤ ks.getD q 0 ∧ ks.getD q 0 ≤ f2) ∧ Hid (wr.heap[w.heap.size]? = some (scrBox ⟨f0, f1, f2, f3, f4, f5, f6, txt⟩ (.slice Ap k cp) (.slice Ak n3 ck))) ∧ Hid (Below w.heap.size w wr)) (fun i _ => n3 - (intOf i).toNat)
        case atStart => exact ⟨0, Nat.zero_le _, rfl, (fun q hq => absurd hq (by omega)), HX.out, HW.out⟩
        case round =>
          obtain ⟨j, hj, rfl, HQ, HX', HW'⟩ := hrel
          clear HX HW
          by_cases hjl : j < n3
          · obtain ⟨b, o, rfl, hb, hcx⟩ := HK.out (by rw [HN3.out]; omega)
            have hx := hcx j (by rw [HN3.out]; exact hjl)
            rw [← HW'.out.cell (p := ⟨b, o + j, none⟩) hb] at hx
            have X3'' := Lib.hid (X3'.out _ (getD_mem 0 ks j (by rw [HN3.out]; exact hjl)))
            have HGD := Lib.hid (fun (q : Nat) (hq : q < j + 1) (h : 0 ≤ ks.getD j 0 ∧ ks.getD j 0 ≤ f2) => (by
              rcases Nat.lt_or_ge q j with hlt | hge
              · exact HQ.out q hlt
              · obtain rfl : q = j := by omega
                exact h : 0 ≤ ks.getD q 0 ∧ ks.getD q 0 ≤ f2))
            generalize hgx : ks.getD j 0 = x at *
            clear hgx hcx
            obtain ⟨q0, q1, q2, q3, q4, q5, q6, q7, q8, q9⟩ := box_cell HX'.out
            dsimp only at q2
            clear q0 q1 q3 q4 q5 q6 q7 q8 q9
            have hji : (j : Int) < (n3 : Int) := by omega
            by_cases hx0 : x < 0
            · have HR : Hid (R = 2) := X3''.out (by omega)
              go_wp2_with fail
              go_ret
              exact ⟨by rw [HR.out]; rfl, HW'.out⟩
            · by_cases hx1 : f2 < x
              · have HR : Hid (R = 2) := X3''.out (by omega)
                go_wp2_with fail
                go_ret
                exact ⟨by rw [HR.out]; rfl, HW'.out⟩
              · have HGD2 := Lib.hid (fun q hq => HGD.out q hq (by omega))
                clear HGD
                go_wp2_with fail
                go_roundw
                case rel => exact ⟨j + 1, by omega, by go_num, HGD2.out, HX'.out, HW'.out⟩
                case measure => simp [intOf]; omega
          · obtain rfl : j = n3 := by omega
            have HM := Lib.hid (all_of_getD (P := fun x => 0 ≤ x ∧ x ≤ f2) 0 (by rw [HN3.out]; exact HQ.out))
            obtain ⟨q0, q1, q2, q3, q4, q5, q6, q7, q8, q9⟩ := box_cell HX'.out
            dsimp only at q0 q1 q2 q3 q4 q5 q6 q7
            have HPL := Lib.hid (XP'.out wr (HP.out.below HW'.out HW'.out.size) (by omega) htx (by omega))
            have X4'' := Lib.hid (X4'.out HM.out)
            have X5'' := Lib.hid (X5'.out HM.out)
            generalize hE : (encScr ⟨⟨f0, f1, f2, f3, f4, f5, f6, txt⟩, ps, ks⟩).length = E at *
            have hEL := XL.out
            clear hE
            have hel : (15 : Int) + txt.size + j + (encProgs ps).length = E := by rw [hEL]; omega
            rw [hel] at HPL
            clear hel hEL
            by_cases hbig : 65536 < E
            · have hbi : (65536 : Int) < (E : Int) := by omega
              have HR : Hid (R = 5) := X4''.out hbig
              go_wp2_with fail
              refine HPL.out.mono ?_
              rintro e wp ⟨rfl, hbp⟩
              have HW2 := Lib.hid (below_then HW'.out HW'.out.size hbp)
              clear hbp HPL
              go_wp2_with fail
              go_ret
              exact ⟨by rw [HR.out]; rfl, HW2.out⟩
            · have hbi : ¬ (65536 : Int) < (E : Int) := by omega
              have HR : Hid (R = 0) := X5''.out hbig
              go_wp2_with fail
              refine HPL.out.mono ?_
              rintro e wp ⟨rfl, hbp⟩
              have HW2 := Lib.hid (below_then HW'.out HW'.out.size hbp)
              clear hbp HPL
              go_wp2_with fail
              go_ret
              exact ⟨by rw [HR.out]; rfl, HW2.out⟩
theorem scriptCheck (s : ScrV) (Ap Ak : Option Addr) (cp ck : Nat) (w : World) (hz : ScrSz s) (hP : ProgsAt w w.heap.size Ap s.progs) (hK : Ints w w.heap.size Ak s.picks) :
    Calls Tryz.prog 6 #[scrVal s.cfg (.slice Ap s.progs.length cp) (.slice Ak s.picks.length ck)] w (CheckRes (chkScr s) w) := by
  by_cases h : cfgErr s.cfg = 0
  · by_cases hl : (s.progs.length : Int) = s.cfg.clients
    · exact check_main s Ap Ak cp ck w hz hP hK h hl
    · exact check_len s Ap cp _ w hz.text h hl
  · exact check_bad s _ _ w hz.text h
end Go.Proofs.YtbjadgggpkbjmaaGreat
namespace Go.Proofs.YtbjadgggpkbjmaaGreat
open Go.RowKit

/-- The world in Plain behind its first statement: the operation's box, the fields that its kind uses. -/
structure UsSt (w W : World) (ub : Nat) (us : Array Value) (o : OpV) : Prop where
  us : W.heap[ub]? = some (.cells us 57)
  op : OpAt W w.heap.size 0 o
  bel : Below w.heap.size w W
theorem usst_start {w w1 : World} (x0 x1 x2 x3 x4 x5 : Int) (x6 : ByteArray) (us : Array Value)
    (hg : (w.alloc (.cells #[.int .u8 x0, .int .i64 x1, .int .i64 x2, .int .i64 x3, .int .u32 x4, .int .u8 x5, .string x6] 40)).grownBy w1 none) :
    UsSt w (w1.alloc (.cells us 57)) w1.heap.size us ⟨x0, x1, x2, x3, x4, x5, x6⟩ := by
  have hs := hg.size
  simp only [World.size_alloc] at hs
  refine ⟨heap_alloc_new _ _, ?_, ?_⟩
  · refine (opAt_new w x0 x1 x2 x3 x4 x5 x6).keep ?_
    rw [Below.heap_alloc _ _ _ (by omega)]
    exact hg.block _ (by simp) (by simp)
  · exact ⟨hg.os, hg.tape, hg.output, by simp; omega, fun k hk => by
      rw [Below.heap_alloc _ _ _ (by omega), hg.block k (by simp; omega) (by simp), Below.heap_alloc _ _ _ hk]⟩
theorem UsSt.cells {w W : World} {ub : Nat} {us : Array Value} {x0 x1 x2 x3 x4 x5 : Int} {x6 : ByteArray} (h : UsSt w W ub us ⟨x0, x1, x2, x3, x4, x5, x6⟩) :
    W.cell? ⟨w.heap.size, 0, none⟩ = some (.int .u8 x0) ∧ W.cell? ⟨w.heap.size, 1, none⟩ = some (.int .i64 x1) ∧ W.cell? ⟨w.heap.size, 2, none⟩ = some (.int .i64 x2) ∧ W.cell? ⟨w.heap.size, 3, none⟩ = some (.int .i64 x3) ∧
      W.cell? ⟨w.heap.size, 4, none⟩ = some (.int .u32 x4) ∧ W.cell? ⟨w.heap.size, 5, none⟩ = some (.int .u8 x5) ∧ W.cell? ⟨w.heap.size, 6, none⟩ = some (.string x6) := by
  obtain ⟨m0, m1, m2, m3, m4, m5, m6⟩ := h.op
  simp only [Nat.zero_add] at m1 m2 m3 m4 m5 m6
  exact ⟨m0, m1, m2, m3, m4, m5, m6⟩
theorem UsSt.u {w W : World} {ub : Nat} {us : Array Value} {o : OpV} (h : UsSt w W ub us o) (i : Nat) : W.cell? ⟨ub, i, none⟩ = us[i]? := by
  unfold World.cell?; rw [h.us]; rfl
theorem plainR {o : OpV} {P : Prop} {R b : Bool} (hR : plainB o = R) (h : PlainOp o ↔ P) (hb : b = true ↔ P) : Ending.returned (.bool b) = .returned (.bool R) := by
  have : b = R := by
    subst hR
    unfold plainB
    by_cases hp : PlainOp o
    · simp [hp, hb.2 (h.1 hp)]
    · have : ¬ b = true := fun hn => hp (h.2 (hb.1 hn))
      simp [hp, this]
  rw [this]
end Go.Proofs.YtbjadgggpkbjmaaGreat
namespace Go.Proofs.YtbjadgggpkbjmaaGreat
open Go.RowKit

def six : List Int := [0, 1, 2, 3, 4, 5]
theorem six_getD (k : Nat) (hk : k < 6) : six.getD k 0 = k := by
  match k, hk with
  | 0, _ | 1, _ | 2, _ | 3, _ | 4, _ | 5, _ => rfl
  | k + 6, hk => exact absurd hk (by omega)
def usedTo (k : Int) (i : Nat) : List Int := (six.take i).filter (useB k)
theorem usedTo_succ (k : Int) (i : Nat) (hi : i < 6) : usedTo k (i + 1) = if useB k i then usedTo k i ++ [(i : Int)] else usedTo k i := by
  have hl : i < six.length := hi
  unfold usedTo
  rw [take_snoc 0 six i hl, List.filter_append, six_getD i hi]
  cases h : useB k (i : Int) <;> simp [h]
theorem usedTo_six (k : Int) (h0 : 0 ≤ k) (h1 : k ≤ 255) : usedTo k 6 = fieldsOf k := by
  by_cases hk : 1 ≤ k ∧ k ≤ 16
  · have hk' : k = 1 ∨ k = 2 ∨ k = 3 ∨ k = 4 ∨ k = 5 ∨ k = 6 ∨ k = 7 ∨ k = 8 ∨ k = 9 ∨ k = 10 ∨ k = 11 ∨ k = 12 ∨ k = 13 ∨ k = 14 ∨ k = 15 ∨ k = 16 := by omega
    rcases hk' with rfl | rfl | rfl | rfl | rfl | rfl | rfl | rfl | rfl | rfl | rfl | rfl | rfl | rfl | rfl | rfl <;> decide
  · have e : fieldsOf k = [] := by
      unfold fieldsOf
      simp [show ¬ k = 1 by omega, show ¬ k = 2 by omega, show ¬ k = 3 by omega, show ¬ k = 4 by omega, show ¬ k = 5 by omega, show ¬ k = 6 by omega, show ¬ k = 7 by omega, show ¬ k = 8 by omega, show ¬ k = 9 by omega, show ¬ k = 10 by omega, show ¬ k = 11 by omega, show ¬ k = 12 by omega, show ¬ k = 13 by omega]
    unfold usedTo useB
    rw [e]; rfl
theorem usesVal_cell (k : Int) (i : Nat) (hi : i < 6) : (#[.bool (useB k 0), .bool (useB k 1), .bool (useB k 2), .bool (useB k 3), .bool (useB k 4), .bool (useB k 5)] : Array Value)[i]? = some (.bool (useB k i)) := by
  match i, hi with
  | 0, _ | 1, _ | 2, _ | 3, _ | 4, _ | 5, _ => rfl
  | k + 6, hk => exact absurd hk (by omega)
theorem encFs_snoc (o : OpV) (fs : List Int) (f : Int) : encFs o (fs ++ [f]) = encFs o fs ++ encF o f := by simp [encFs]
theorem usedTo_len (o : OpV) (i : Nat) (hi : i < 6) : ((encFs o (usedTo o.kind (i + 1))).length : Int) = (encFs o (usedTo o.kind i)).length + (if useB o.kind i then szF o i else 0) := by
  rw [usedTo_succ _ _ hi]
  cases h : useB o.kind (i : Int)
  · simp
  · simp [encFs_snoc, szF_len]
theorem usedTo_le (o : OpV) (ht : o.text.size ≤ 256) (i : Nat) (hi : i ≤ 6) : ((encFs o (usedTo o.kind i)).length : Int) ≤ 6 * 258 := by
  have h1 := encFs_len_le ht (usedTo o.kind i)
  have h2 : (usedTo o.kind i).length ≤ i := by
    unfold usedTo
    have := List.length_filter_le (useB o.kind) (six.take i)
    have h3 : (six.take i).length ≤ i := by simp; omega
    omega
  have : (usedTo o.kind i).length * 258 ≤ 6 * 258 := Nat.mul_le_mul_right _ (by omega)
  omega
abbrev usesArr (k : Int) : Array Value := #[.bool (useB k 0), .bool (useB k 1), .bool (useB k 2), .bool (useB k 3), .bool (useB k 4), .bool (useB k 5)]
abbrev sizesArr (o : OpV) : Array Value := #[.int .i64 1, .int .i64 2, .int .i64 2, .int .i64 4, .int .i64 1, .int .i64 (2 + o.text.size)]
theorem sizes_cell (o : OpV) (i : Nat) (hi : i < 6) : (sizesArr o)[i]? = some (.int .i64 (szF o i)) := by
  match i, hi with
  | 0, _ | 1, _ | 2, _ | 3, _ | 4, _ | 5, _ => rfl
  | k + 6, hk => exact absurd hk (by omega)
theorem heap_lt {W : World} {q : Nat} {x : Obj} (h : W.heap[q]? = some x) : q < W.heap.size := by
  rcases Nat.lt_or_ge q W.heap.size with hlt | hge
  · exact hlt
  · rw [Array.getElem?_eq_none hge] at h; cases h

end Go.Proofs.YtbjadgggpkbjmaaGreat
namespace Go.Proofs.YtbjadgggpkbjmaaGreat
open Go.RowKit

theorem encOp_len_le {o : OpV} (h : PlainOp o) : ((encOp o).length : Int) ≤ 775 := by
  have h1 := encFs_len_le h.text (fieldsOf o.kind)
  have h2 := (fieldsOf_bd o.kind).1
  have : (fieldsOf o.kind).length * 258 ≤ 3 * 258 := Nat.mul_le_mul_right _ h2
  simp only [encOp, List.length_append, num_len]
  omega
theorem encOps_take2 (p : List OpV) (k : Nat) (hk : k < p.length) : ((encOps (p.take (k + 1))).length : Int) = (encOps (p.take k)).length + (encOp (p.getD k noOp)).length := by
  rw [take_snoc noOp p k hk, encOps_snoc]
  simp
end Go.Proofs.YtbjadgggpkbjmaaGreat
