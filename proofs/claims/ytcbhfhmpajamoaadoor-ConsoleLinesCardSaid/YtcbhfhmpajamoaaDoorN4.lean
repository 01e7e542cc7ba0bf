/- Ported: plain, whole; length. -/
import Derived.Test.YtcbhfhmpajamoaaDoorN3
namespace Go.Proofs.YtcbhfhmpajamoaaDoor
open Go.RowKit

theorem ret_int {k : IntKind} {a b : Int} (h : a = b) : Ending.returned (.int k a) = .returned (.int k b) := by rw [h]
theorem getD_mem0 {α : Type} (d : α) (xs : List α) (k : Nat) (hk : k < xs.length) : xs.getD k d ∈ xs := by
  simp [List.getD_eq_getElem?_getD, hk]

theorem okF_zero {o : OpV} {f : Int} (h : okF o f) : uses o.kind f = false → zeroF o f := fun hu => by unfold okF at h; rw [if_neg (by simp [hu])] at h; exact h
theorem not_okF {o : OpV} {f : Int} (h : ¬ okF o f) : (uses o.kind f = true → ¬ fitF o f) ∧ (uses o.kind f = false → ¬ zeroF o f) :=
  ⟨fun hu hf => h (by unfold okF; rw [if_pos hu]; exact hf), fun hu hz => h (by unfold okF; rw [if_neg (by simp [hu])]; exact hz)⟩
theorem not_okF3 {o : OpV} {f : Int} (h : ¬ okF o f) (hf : fitF o f) : uses o.kind f = false ∧ ¬ zeroF o f := by
  have := not_okF h
  cases hu : uses o.kind f
  · exact ⟨rfl, this.2 hu⟩
  · exact absurd hf (this.1 hu)
theorem okF_fit0 {o : OpV} (h : okF o 0) : 0 ≤ o.slot ∧ o.slot ≤ 255 := by
  unfold okF at h; split at h
  · exact h
  · have : o.slot = 0 := h
    omega
theorem okF_fit1 {o : OpV} (h : okF o 1) : 0 ≤ o.pos ∧ o.pos ≤ 65535 := by
  unfold okF at h; split at h
  · exact h
  · have : o.pos = 0 := h
    omega
theorem okF_fit2 {o : OpV} (h : okF o 2) : 0 ≤ o.num ∧ o.num ≤ 65535 := by
  unfold okF at h; split at h
  · exact h
  · have : o.num = 0 := h
    omega
theorem okF_fit5 {o : OpV} (h : okF o 5) : o.text.size ≤ 256 := by
  unfold okF at h; split at h
  · exact h
  · have : o.text.size = 0 := h
    omega
theorem plain_kind (x0 x1 x2 x3 x4 x5 : Int) (x6 : ByteArray) (w : World) (h0 : 0 ≤ x0) (hk : ¬ (1 ≤ x0 ∧ x0 ≤ 16)) :
    Calls Tryd.prog 39 #[opVal ⟨x0, x1, x2, x3, x4, x5, x6⟩] w (BoolBelow false w) := by
  have HB := Lib.hid (below_box w)
  by_cases h1 : x0 < 1
  · clear hk
    go_enter Tryd.func39, Tryd.ntmps39
    go_wp2
    go_ret
    exact ⟨rfl, HB.out _⟩
  · have h2 : 16 < x0 := by omega
    clear hk
    go_enter Tryd.func39, Tryd.ntmps39
    go_wp2
    go_ret
    exact ⟨rfl, HB.out _⟩
open Classical in
noncomputable def plainB (o : OpV) : Bool := decide (PlainOp o)
theorem plainB_no {o : OpV} (h : ¬ PlainOp o) : plainB o = false := by simp [plainB, h]
theorem plainB_yes {o : OpV} (h : PlainOp o) : plainB o = true := by simp [plainB, h]
theorem plainFn (o : OpV) (w : World) (h0 : 0 ≤ o.kind) : Calls Tryd.prog 39 #[opVal o] w (BoolBelow (plainB o) w) := by
  obtain ⟨x0, x1, x2, x3, x4, x5, x6⟩ := o
  dsimp only at h0
  by_cases hk : 1 ≤ x0 ∧ x0 ≤ 16
  · by_cases c0 : okF ⟨x0, x1, x2, x3, x4, x5, x6⟩ 0
    case neg =>
      rw [plainB_no (fun h => c0 h.f0)]
      have n := not_okF c0
      exact plain_no0 x0 x1 x2 x3 x4 x5 x6 w hk.1 hk.2 n.1 n.2
    by_cases c1 : okF ⟨x0, x1, x2, x3, x4, x5, x6⟩ 1
    case neg =>
      rw [plainB_no (fun h => c1 h.f1)]
      have n := not_okF c1
      exact plain_no1 x0 x1 x2 x3 x4 x5 x6 w hk.1 hk.2 (okF_fit0 c0) (okF_zero c0) n.1 n.2
    by_cases c2 : okF ⟨x0, x1, x2, x3, x4, x5, x6⟩ 2
    case neg =>
      rw [plainB_no (fun h => c2 h.f2)]
      have n := not_okF c2
      exact plain_no2 x0 x1 x2 x3 x4 x5 x6 w hk.1 hk.2 (okF_fit0 c0) (okF_zero c0) (okF_fit1 c1) (okF_zero c1) n.1 n.2
    by_cases c3 : okF ⟨x0, x1, x2, x3, x4, x5, x6⟩ 3
    case neg =>
      rw [plainB_no (fun h => c3 h.f3)]
      have n := not_okF3 c3 trivial
      exact plain_no3 x0 x1 x2 x3 x4 x5 x6 w hk.1 hk.2 (okF_fit0 c0) (okF_zero c0) (okF_fit1 c1) (okF_zero c1) (okF_fit2 c2) (okF_zero c2) n.1 n.2
    by_cases c4 : okF ⟨x0, x1, x2, x3, x4, x5, x6⟩ 4
    case neg =>
      rw [plainB_no (fun h => c4 h.f4)]
      have n := not_okF3 c4 trivial
      exact plain_no4 x0 x1 x2 x3 x4 x5 x6 w hk.1 hk.2 (okF_fit0 c0) (okF_zero c0) (okF_fit1 c1) (okF_zero c1) (okF_fit2 c2) (okF_zero c2) (okF_zero c3) n.1 n.2
    by_cases c5 : okF ⟨x0, x1, x2, x3, x4, x5, x6⟩ 5
    case neg =>
      rw [plainB_no (fun h => c5 h.f5)]
      have n := not_okF c5
      exact plain_no5 x0 x1 x2 x3 x4 x5 x6 w hk.1 hk.2 (okF_fit0 c0) (okF_zero c0) (okF_fit1 c1) (okF_zero c1) (okF_fit2 c2) (okF_zero c2) (okF_zero c3) (okF_zero c4) n.1 n.2
    rw [plainB_yes ⟨hk, c0, c1, c2, c3, c4, c5⟩]
    exact plain_yes x0 x1 x2 x3 x4 x5 x6 w hk.1 hk.2 (okF_fit0 c0) (okF_zero c0) (okF_fit1 c1) (okF_zero c1) (okF_fit2 c2) (okF_zero c2) (okF_zero c3) (okF_zero c4) (okF_fit5 c5) (okF_zero c5)
  · rw [plainB_no (fun h => hk h.kind)]
    exact plain_kind x0 x1 x2 x3 x4 x5 x6 w h0 hk

/-! ### length -/
theorem take_snocD {α : Type} (d : α) (xs : List α) (k : Nat) (hk : k < xs.length) : xs.take (k + 1) = xs.take k ++ [xs.getD k d] := by
  rw [List.take_succ_eq_append_getElem hk]
  simp [List.getD_eq_getElem?_getD, hk]
theorem encFs_take (o : OpV) (fs : List Int) (k : Nat) (hk : k < fs.length) : ((encFs o (fs.take (k + 1))).length : Int) = (encFs o (fs.take k)).length + szF o (fs.getD k 0) := by
  rw [take_snocD 0 fs k hk, szF_len]
  simp [encFs]
theorem encOps_take (p : List OpV) (k : Nat) (hk : k < p.length) : ((encOps (p.take (k + 1))).length : Int) = (encOps (p.take k)).length + (1 + (encFs (p.getD k noOp) (fieldsOf (p.getD k noOp).kind)).length) := by
  rw [take_snocD noOp p k hk, encOps_snoc]
  simp [encOp, num_len]
theorem encProgs_take (ps : List (List OpV)) (k : Nat) (hk : k < ps.length) : ((encProgs (ps.take (k + 1))).length : Int) = (encProgs (ps.take k)).length + (2 + (encOps (ps.getD k [])).length) := by
  rw [take_snocD [] ps k hk, encProgs_snoc]
  simp [encProg, num_len]
theorem szF_bd {o : OpV} (h : o.text.size ≤ 256) (f : Int) : 1 ≤ szF o f ∧ szF o f ≤ 258 := by
  unfold szF
  (repeat' split) <;> omega
theorem encFs_len_le {o : OpV} (h : o.text.size ≤ 256) (fs : List Int) : (encFs o fs).length ≤ fs.length * 258 := by
  induction fs with
  | nil => simp [encFs]
  | cons f fs ih =>
    have h1 := szF_bd h f
    have h2 := szF_len o f
    have e : encFs o (f :: fs) = encF o f ++ encFs o fs := by simp [encFs]
    rw [e, List.length_append, List.length_cons]
    omega
theorem encOps_len_le (p : List OpV) (h : ∀ o ∈ p, PlainOp o) : (encOps p).length ≤ p.length * 775 := by
  induction p with
  | nil => simp [encOps]
  | cons o p ih =>
    have h1 := encFs_len_le (h o (by simp)).text (fieldsOf o.kind)
    have h2 := (fieldsOf_bd o.kind).1
    have h3 := ih (fun q hq => h q (by simp [hq]))
    have e : encOps (o :: p) = encOp o ++ encOps p := by simp [encOps]
    rw [e, List.length_append, List.length_cons, encOp, List.length_append, num_len]
    have : (fieldsOf o.kind).length * 258 ≤ 3 * 258 := Nat.mul_le_mul_right _ h2
    omega
theorem encProgs_len_le (ps : List (List OpV)) (h : ∀ p ∈ ps, p.length ≤ 256 ∧ ∀ o ∈ p, PlainOp o) : (encProgs ps).length ≤ ps.length * 200000 := by
  induction ps with
  | nil => simp [encProgs]
  | cons p ps ih =>
    have h1 := encOps_len_le p (h p (by simp)).2
    have h2 := (h p (by simp)).1
    have h3 := ih (fun q hq => h q (by simp [hq]))
    have e : encProgs (p :: ps) = encProg p ++ encProgs ps := by simp [encProgs]
    rw [e, List.length_append, List.length_cons, encProg, List.length_append, num_len]
    omega
theorem opBox_new (w : World) (x0 x1 x2 x3 x4 x5 : Int) (x6 : ByteArray) : OpAt (w.alloc (.cells #[.int .u8 x0, .int .i64 x1, .int .i64 x2, .int .i64 x3, .int .u32 x4, .int .u8 x5, .string x6] 24)) w.heap.size 0 ⟨x0, x1, x2, x3, x4, x5, x6⟩ := opAt_new w x0 x1 x2 x3 x4 x5 x6
theorem fields_bd2 (k : Int) (q : Nat) (hq : q < (fieldsOf k).length) : in5 ((fieldsOf k).getD q 0) := by
  have := (fieldsOf_bd k).2 _ (getD_mem0 0 (fieldsOf k) q hq)
  unfold in5; omega

theorem encProgs_take_le (ps : List (List OpV)) (h : ∀ p ∈ ps, p.length ≤ 256 ∧ ∀ o ∈ p, PlainOp o) (k : Nat) : ((encProgs (ps.take k)).length : Int) ≤ k * 200000 := by
  have h1 := encProgs_len_le (ps.take k) (fun p hp => h p (List.mem_of_mem_take hp))
  have h2 : (ps.take k).length ≤ k := by simp; omega
  omega
theorem encOps_take_le (ps : List OpV) (h : ∀ o ∈ ps, PlainOp o) (k : Nat) : ((encOps (ps.take k)).length : Int) ≤ k * 775 := by
  have h1 := encOps_len_le (ps.take k) (fun p hp => h p (List.mem_of_mem_take hp))
  have h2 : (ps.take k).length ≤ k := by simp; omega
  omega
theorem encFs_take_le {o : OpV} (h : o.text.size ≤ 256) (fs : List Int) (k : Nat) : ((encFs o (fs.take k)).length : Int) ≤ k * 258 := by
  have h1 := encFs_len_le h (fs.take k)
  have h2 : (fs.take k).length ≤ k := by simp; omega
  omega
theorem OpAt.grown {w w' : World} {b o : Nat} {x : OpV} (h : OpAt w b o x) (hg : w.grownBy w' none) : OpAt w' b o x :=
  h.keep (hg.block b (World.block_lt_of_cell? w _ h.c0) (by simp))
theorem U8s.grown {w w' : World} {A : Option Addr} {fs : List Int} (h : U8s w A fs) (hg : w.grownBy w' none) : U8s w' A fs := u8s_keep h fun q hq => hg.block q hq.lt (by simp)
theorem below_grown {B : Nat} {w0 w w' : World} (h : Below B w0 w) (hg : w.grownBy w' none) (hB : B ≤ w.heap.size) : Below B w0 w' :=
  h.trans ⟨hg.os, hg.tape, hg.output, hg.size, fun k hk => hg.block k (by omega) (by simp)⟩

set_option maxHeartbeats 0 in
set_option maxRecDepth 100000 in
theorem lengthP (cfg : CfgV) (ps : List (List OpV)) (ks : List Int) (Ap Ak : Option Addr) (cp ck : Nat) (w : World) (hP : ProgsAt w w.heap.size Ap ps) (hn : ps.length ≤ 8)
    (hl : ∀ p ∈ ps, p.length ≤ 256 ∧ ∀ o ∈ p, PlainOp o) (ht : cfg.text.size ≤ 65536) (hk : ks.length ≤ 65535) :
    Calls Tryd.prog 40 #[scrVal cfg (.slice Ap ps.length cp) (.slice Ak ks.length ck)] w (fun e w' => e = .returned (.int .i64 (15 + cfg.text.size + ks.length + (encProgs ps).length)) ∧ Below w.heap.size w w') := by
  obtain ⟨f0, f1, f2, f3, f4, f5, f6, txt⟩ := cfg
  dsimp only at ht
  have HP := Lib.hid hP
  have HL := Lib.hid hl
  have HB := Lib.hid (below_box w)
  have HLL := Lib.hid (encProgs_take_le ps hl)
  clear hP hl
  generalize hn1 : ps.length = n1 at *
  generalize ks.length = n3 at *
  have HN1 := Lib.hid hn1
  clear hn1
  have d2 : (txt.size : Int) ≤ 65536 := by omega
  have d3 : (n3 : Int) ≤ 65535 := by omega
  go_enter Tryd.func40, Tryd.ntmps40
  go_wp2
  go_loopw [3, 23] (fun nv i wr => ∃ (k : Nat) (v : Int), k ≤ n1 ∧ i = .int .i64 k ∧ nv = .int .i64 v ∧ Hid (v = 15 + txt.size + n3 + (encProgs (ps.take k)).length) ∧ 0 ≤ v ∧ v ≤ 131086 + k * 200000 ∧ Hid (Below w.heap.size w wr)) (fun _ i _ => n1 - (intOf i).toNat)
  case atStart => exact ⟨0, _, Nat.zero_le _, rfl, rfl, by show _ = _; simp [encProgs]; omega, by omega, by omega, HB.out _⟩
  case round =>
    obtain ⟨k, v, hk, rfl, rfl, HV, v0, v1, HW⟩ := hrel
    by_cases hlt : k < n1
    · obtain ⟨b, o, rfl, hb, hcx⟩ := HP.out (by rw [HN1.out]; omega)
      obtain ⟨A1, c1', hx, ha⟩ := hcx k (by rw [HN1.out]; exact hlt)
      rw [← HW.out.cell (p := ⟨b, o + k, none⟩) hb] at hx
      have HA := Lib.hid ha
      clear hcx ha
      have HPK := Lib.hid (encProgs_take ps k (by rw [HN1.out]; exact hlt))
      have HLK := Lib.hid (HL.out _ (getD_mem0 [] ps k (by rw [HN1.out]; exact hlt)))
      generalize ps.getD k [] = p at *
      have HTK := Lib.hid (encOps_take_le p HLK.out.2)
      have hl256 := HLK.out.1
      generalize hpl : p.length = l at *
      have HPL := Lib.hid hpl
      clear hpl
      have hki : (k : Int) < (n1 : Int) := by omega
      go_wp2
      go_loopw [3, 31] (fun nv i wr => ∃ (j : Nat) (v' : Int), j ≤ l ∧ i = .int .i64 j ∧ nv = .int .i64 v' ∧ Hid (v' = v + 2 + (encOps (p.take j)).length) ∧ 0 ≤ v' ∧ v' ≤ v + 2 + j * 775 ∧ Hid (Below w.heap.size w wr)) (fun _ i _ => l - (intOf i).toNat)
      case atStart => exact ⟨0, _, Nat.zero_le _, rfl, rfl, by show _ = _; simp [encOps], by omega, by omega, HW.out⟩
      case round =>
        obtain ⟨j, v', hj, rfl, rfl, HV', v0', v1', HW'⟩ := hrel
        by_cases hjl : j < l
        · obtain ⟨b', o', rfl, hb', hop⟩ := HA.out (by rw [HPL.out]; omega)
          have hopj := (hop j (by rw [HPL.out]; exact hjl)).keep (HW'.out.block b' hb')
          clear hop
          have HOK := Lib.hid (encOps_take p j (by rw [HPL.out]; exact hjl))
          have HPO := Lib.hid (HLK.out.2 _ (getD_mem0 noOp p j (by rw [HPL.out]; exact hjl)))
          generalize p.getD j noOp = op at *
          obtain ⟨x0, x1, x2, x3, x4, x5, x6⟩ := op
          obtain ⟨m0, m1, m2, m3, m4, m5, m6⟩ := hopj
          have hk1 := HPO.out.kind.1
          have hk2 := HPO.out.kind.2
          have ht6 := HPO.out.text
          dsimp only at hk1 hk2 ht6 m0 m1 m2 m3 m4 m5 m6
          have HF := Lib.hid (fun W : World => fieldsFn x0 W hk1 hk2)
          have HFT := Lib.hid (encFs_take ⟨x0, x1, x2, x3, x4, x5, x6⟩ (fieldsOf x0))
          have HFL := Lib.hid (encFs_take_le (o := ⟨x0, x1, x2, x3, x4, x5, x6⟩) ht6 (fieldsOf x0))
          have HFB := Lib.hid (fields_bd2 x0)
          have hf3 := (fieldsOf_bd x0).1
          dsimp only at HOK
          have hji : (j : Int) < (l : Int) := by omega
          have HOB := Lib.hid (opBox_new wr x0 x1 x2 x3 x4 x5 x6)
          have HWA := Lib.hid (HW'.out.alloc HW'.out.size (.cells #[.int .u8 x0, .int .i64 x1, .int .i64 x2, .int .i64 x3, .int .u32 x4, .int .u8 x5, .string x6] 24))
          have n0 := HOB.out.c0
          go_wp2_with fail
          refine (HF.out _).mono ?_
          rintro e wf ⟨A, c, rfl, hu, hg⟩
          have HO := Lib.hid (HOB.out.grown hg)
          have HU := Lib.hid hu
          have HWF := Lib.hid (below_grown HWA.out hg (by have := HW'.out.size; simp; omega))
          clear hu hg HF HOB HWA n0 m0 m1 m2 m3 m4 m5 m6
          generalize hfl : (fieldsOf x0).length = nf at *
          have HFN := Lib.hid hfl
          clear hfl
          generalize wr.heap.size = ob at *
          go_wp2_with fail
          go_loopw [3, 41] (fun nv i wr => ∃ (q : Nat) (u : Int), q ≤ nf ∧ i = .int .i64 q ∧ nv = .int .i64 u ∧ Hid (u = v' + 1 + (encFs ⟨x0, x1, x2, x3, x4, x5, x6⟩ ((fieldsOf x0).take q)).length) ∧ 0 ≤ u ∧ u ≤ v' + 1 + q * 258 ∧
            Hid (OpAt wr ob 0 ⟨x0, x1, x2, x3, x4, x5, x6⟩) ∧ Hid (U8s wr A (fieldsOf x0)) ∧ Hid (Below w.heap.size w wr)) (fun _ i _ => nf - (intOf i).toNat)
          case atStart => exact ⟨0, _, Nat.zero_le _, rfl, rfl, by show _ = _; simp [encFs], by omega, by omega, HO.out, HU.out, HWF.out⟩
          case round =>
            obtain ⟨q, u, hq, rfl, rfl, HVq, u0, u1, HOq, HUq, HWq⟩ := hrel
            clear HO HU HWF
            by_cases hqn : q < nf
            · obtain ⟨bu, ou, rfl, _, hcu⟩ := HUq.out (by rw [HFN.out]; omega)
              have hfq := hcu q (by first | exact hqn | (rw [HFN.out]; exact hqn))
              clear hcu
              have HTQ := Lib.hid (HFT.out q (by first | exact hqn | (rw [HFN.out]; exact hqn)))
              have hin := HFB.out q (by first | exact hqn | (rw [HFN.out]; exact hqn))
              generalize (fieldsOf x0).getD q 0 = f at *
              have hfb : 0 ≤ f ∧ f ≤ 5 := by unfold in5 at hin; omega
              have HS := Lib.hid (sizeFn ⟨x0, x1, x2, x3, x4, x5, x6⟩ f wr hin (by show x6.size ≤ _; omega))
              have hz := szF_bd (o := ⟨x0, x1, x2, x3, x4, x5, x6⟩) ht6 f
              clear hin
              generalize szF ⟨x0, x1, x2, x3, x4, x5, x6⟩ f = z at *
              obtain ⟨m0, m1, m2, m3, m4, m5, m6⟩ := HOq.out
              dsimp only at m0 m1 m2 m3 m4 m5 m6
              have hqi : (q : Int) < (nf : Int) := by omega
              go_wp2_with fail
              refine HS.out.mono ?_
              rintro e wz ⟨rfl, _, hg⟩
              have HO := Lib.hid (HOq.out.grown hg)
              have HU := Lib.hid (HUq.out.grown hg)
              have HWF := Lib.hid (below_grown HWq.out hg HWq.out.size)
              clear hg HS
              go_wp2_with fail
              go_roundw
              case rel => exact ⟨q + 1, _, by omega, by go_num, rfl, by show _ = _; have h1 := HTQ.out; have h2 := HVq.out; omega, by omega, by omega, HO.out, HU.out, HWF.out⟩
              case measure => simp [intOf]; omega
            · obtain rfl : q = nf := by omega
              go_wp2_with fail
              go_roundw
              case rel => exact ⟨j + 1, _, by omega, by go_num, rfl, by show _ = _; have h1 := HOK.out; have h2 := HVq.out; have h3 := HV'.out; rw [List.take_of_length_le (by rw [HFN.out]; omega)] at h2; omega, by omega, by omega, HWq.out⟩
              case measure => simp [intOf]; omega
        · obtain rfl : j = l := by omega
          go_wp2
          go_roundw
          case rel => exact ⟨k + 1, _, by omega, by go_num, rfl, by show _ = _; have h1 := HPK.out; have h2 := HV'.out; have h3 := HV.out; rw [List.take_of_length_le (by rw [HPL.out]; omega)] at h2; omega, by omega, by omega, HW'.out⟩
          case measure => simp [intOf]; omega
    · obtain rfl : k = n1 := by omega
      go_wp2
      go_ret
      have hv := HV.out
      rw [List.take_of_length_le (by rw [HN1.out]; omega)] at hv
      exact ⟨ret_int hv, HW.out⟩
end Go.Proofs.YtcbhfhmpajamoaaDoor
