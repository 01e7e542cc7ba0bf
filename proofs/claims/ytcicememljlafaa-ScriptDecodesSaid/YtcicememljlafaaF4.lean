/- Walks: Decode, by the reference. -/
import Derived.Test.YtcicememljlafaaF3
namespace Go.Proofs.Ytcicememljlafaa
open Go.RowKit
open Runes (bs bt)

theorem RqSt.form {w0 W : World} {B lim : Nat} {l : List Int} {b : Bool} {cfg : CfgV} {v8 v9 : Value} {ps : List (List OpV)} {ks : List Int} (h : RqSt w0 W B l b lim cfg v8 v9 ps ks) :
    ∃ A8 x8 A9 x9, v8 = .slice A8 ps.length x8 ∧ v9 = .slice A9 ks.length x9 ∧ ProgsAt W W.heap.size A8 ps ∧ Ints W W.heap.size A9 ks := by
  obtain ⟨Ap, cp, Ak, ck, e, hP, hK⟩ := h.rr.bld.scr
  injection e with e
  injection e with e
  injection e with _ e; injection e with _ e; injection e with _ e; injection e with _ e; injection e with _ e; injection e with _ e; injection e with _ e; injection e with _ e; injection e with e8 e; injection e with e9 e
  exact ⟨Ap, cp, Ak, ck, e8, e9, hP, hK⟩
theorem RqSt.below {w0 W W' : World} {B lim : Nat} {l : List Int} {b : Bool} {cfg : CfgV} {v8 v9 : Value} {ps : List (List OpV)} {ks : List Int} (h : RqSt w0 W B l b lim cfg v8 v9 ps ks) (hb : Below W.heap.size W W') : RqSt w0 W' B l b lim cfg v8 v9 ps ks :=
  h.other ⟨hb.os, hb.tape, hb.output, hb.size, fun q t ht _ _ => hb.block q ht.lt⟩ fun q hq => hb.block q (by have := h.rr.lt2; omega)
theorem res19 {ts : Array Value} {A : Nat} {c : CfgV} {p k : Value} {e : Int} {W : World} (h2 : ts[2]? = some (.pointer (some ⟨A, 0, none⟩))) (h3 : ts[3]? = some (.int .i64 e))
    (hA : W.heap[A]? = some (scrBox c p k)) : (results Try.f19 ts).run Try.prog W = .ok (.tuple #[scrVal c p k, .int .i64 e]) W := by
  obtain ⟨c0, c1, c2, c3, c4, c5, c6, c7, c8, c9⟩ := box_cell hA
  simp [results, Try.results19, go_sem, h2, h3, c0, c1, c2, c3, c4, c5, c6, c7, c8, c9, scrVal]
theorem leave19 {ts : Array Value} {l : List Int} {w W : World} {B : Nat} {c : CfgV} {p k : Value} {e : Int} (h2 : ts[2]? = some (.pointer (some ⟨B, 0, none⟩))) (h3 : ts[3]? = some (.int .i64 e))
    (hA : W.heap[B]? = some (scrBox c p k)) (hR : DecodeRes l w (.returned (.tuple #[scrVal c p k, .int .i64 e])) W) :
    bodyPost Try.prog Try.f19 (DecodeRes l w) .ret ⟨ts, []⟩ W := bodyPost_ret (res19 h2 h3 hA) rfl hR
/-- Nothing is returned: the result's box is laid anew with what it holds. -/
theorem err19 {ts : Array Value} {l r : List Int} {w W : World} {b : Bool} {lim : Nat} {cfg : CfgV} {v8 v9 : Value} {ps : List (List OpV)} {ks : List Int} (h2 : ts[2]? = some (.pointer (some ⟨w.heap.size, 0, none⟩))) (h3 : ts[3]? = some (.int .i64 4))
    (h : RqSt w W w.heap.size r b lim cfg v8 v9 ps ks) (hm : l.length ≤ 65536) (hn : ¬ ∃ s, ScrOk s ∧ ScrTy s ∧ encScr s = l) :
    bodyPost Try.prog Try.f19 (DecodeRes l w) .ret ⟨ts, []⟩ (scrSet W w.heap.size cfg0 (.slice none 0 0) (.slice none 0 0)) := by
  refine leave19 h2 h3 (scrSet_a (c0 := cfg0) (p0 := .slice none 0 0) (k0 := .slice none 0 0) h.rr.res) ⟨scrSet_b _ _ _ h.rr.bel (Nat.le_refl _), .inr ⟨hn, ?_⟩⟩
  rw [show decErr l = 4 from (by unfold decErr; rw [if_neg (by omega)])]
theorem ret19 {ts : Array Value} {l r : List Int} {w W : World} {b : Bool} {lim : Nat} {cfg : CfgV} {v8 v9 : Value} {ps : List (List OpV)} {ks : List Int} (h2 : ts[2]? = some (.pointer (some ⟨w.heap.size, 0, none⟩))) (h3 : ts[3]? = some (.int .i64 0))
    (h : RqSt w W w.heap.size r b lim cfg v8 v9 ps ks) (h1 : ScrOk ⟨cfg, ps, ks⟩) (ht : ScrTy ⟨cfg, ps, ks⟩) (he : encScr ⟨cfg, ps, ks⟩ = l) :
    bodyPost Try.prog Try.f19 (DecodeRes l w) .ret ⟨ts, []⟩ (scrSet W w.heap.size cfg v8 v9) := by
  refine leave19 h2 h3 (scrSet_a (c0 := cfg0) (p0 := .slice none 0 0) (k0 := .slice none 0 0) h.rr.res) ⟨scrSet_b _ _ _ h.rr.bel (Nat.le_refl _), .inl ⟨_, _, h1, ht, he, rfl, ?_⟩⟩
  exact (h.rr.bld.but (q := w.heap.size) ⟨_, h.rr.res⟩ (by omega) (scrSet_g W w.heap.size cfg v8 v9)).scr
theorem dPicks_map {γ : Type} (r : List Int) (g : List Int × List Int → γ) : (dPicks r).map g = (dNum r 2).bind fun y => (dTake y.2 y.1.toNat).map g := by
  unfold dPicks; cases dNum r 2 <;> rfl
theorem dProgs_next {k : Nat} {l8 r : List Int} {ps : List (List OpV)} (h : dProgs k l8 = some (ps, r)) : dProgs (k + 1) l8 = (dNum r 2).bind fun z => (dOps z.1.toNat z.2).map fun u => (ps ++ [u.1], u.2) := by
  simp only [dProgs, h, Option.bind_some]
theorem tv_len (l : List Int) : (tv l).size ≤ l.length := by
  have := rd_len l 2
  unfold tv; split
  · rw [bs_size]; simp; omega
  · exact Nat.zero_le _
theorem pick_step {P : Prop} {b : Bool} {r2 r5 ks : List Int} {j : Nat} (h : P ∨ (b = false ∧ ks = r2.take j ∧ r5 = r2.drop j ∧ j ≤ r2.length)) (hn : ¬ j < r2.length → P) :
    P ∨ (rx r5 1 b = false ∧ ks ++ [rv r5 1] = r2.take (j + 1) ∧ rd r5 1 = r2.drop (j + 1) ∧ j + 1 ≤ r2.length) := by
  rcases h with h | ⟨rfl, rfl, rfl, hj⟩
  · exact .inl h
  · by_cases hlt : j < r2.length
    · have hl : 1 ≤ (r2.drop j).length := by simp; omega
      refine .inr ⟨by unfold rx; rw [if_pos hl], ?_, ?_, hlt⟩
      · unfold rv; rw [if_pos hl, take_snoc 0 r2 j hlt]
        congr 2
        have e : (r2.drop j).take 1 = [r2.getD j 0] := by
          rw [List.drop_eq_getElem_cons hlt]
          show [r2[j]] = _
          simp [List.getD_eq_getElem?_getD, hlt]
        rw [e]; simp [val]
      · unfold rd; rw [if_pos hl, List.drop_drop]
    · exact .inl (hn hlt)

set_option maxHeartbeats 1000000 in
set_option maxRecDepth 100000 in
theorem decR_long (l : List Int) (w : World) (hm : ¬ l.length ≤ 65536) (hs : l.length ≤ 9223372036854775807) : Calls Try.prog 19 #[.string (bs l)] w (DecodeRes l w) := by
  have hb : (w.alloc zeroScr).heap[w.heap.size]? = some zeroScr := heap_alloc_new _ _
  have hsz : ((bs l).size : Int) = (l.length : Int) := by rw [bs_size]
  have hd : decide ((65536 : Int) < ((bs l).size : Int)) = true := by rw [hsz]; simp; omega
  have hz : (w.alloc zeroScr).frozen? ⟨w.heap.size, 0, none⟩ = false := (show ElemT (w.alloc zeroScr) w.heap.size 28 from ⟨_, hb⟩).frozen 0
  go_enter Try.func19, Try.ntmps19
  go_wp2
  refine leave19 (B := w.heap.size) (c := cfg0) (p := .slice none 0 0) (k := .slice none 0 0) (e := 5) rfl rfl (heap_alloc_new _ _) ⟨(Below.refl _ _).alloc (Nat.le_refl _) _, .inr ⟨?_, ?_⟩⟩
  · rintro ⟨s, h1, h2, h3⟩
    have := h1.size
    rw [h3] at this
    omega
  · unfold decErr; rw [if_pos (by omega)]

set_option maxHeartbeats 0 in
set_option maxRecDepth 100000 in
theorem decR_main (l : List Int) (w : World) (hm : l.length ≤ 65536) (hl : BL l) : Calls Try.prog 19 #[.string (bs l)] w (DecodeRes l w) := by
  have hd : decide ((65536 : Int) < ((bs l).size : Int)) = false := by rw [bs_size]; simp; omega
  have HS := Lib.hid (rqst_init w l)
  have HB := Lib.hid (And.intro hl hm)
  have HL := Lib.hid (And.intro hl hm)
  have HCN := Lib.hid (fun h : dCfg l = none => dScr_cfg_none h)
  have HLL := Lib.hid (Eq.refl l)
  clear hm hl
  generalize hP : (dScr l = none) = P at *
  have HPP := Lib.hid hP
  clear hP
  go_enter Try.func19, Try.ntmps19
  go_upto_region 5 with fail
  generalize ((w.alloc zeroScr).alloc (.cells #[.string (bs l), .bool false] 56)).alloc zeroScr = W0 at *
  have HN := Lib.hid (numR2 (w.heap.size + 1) l false W0 HS.out.box HB.out.1 HB.out.2)
  have HG := Lib.hid (step_num (k := 2) (l1 := l) (Or.inr (And.intro rfl (dCfg_b l))) HCN.out)
  dsimp only at HG
  have hv := rv_bd HB.out.1 2
  rw [pow2] at hv
  have HB := Lib.hid (And.intro (rd_BL HB.out.1 2) (Nat.le_trans (rd_len l 2) HB.out.2))
  unfold RNum at HN
  generalize rv l 2 = va at *
  generalize rd l 2 = l1 at *
  generalize rx l 2 false = b1 at *
  have hwva := i64w va (by omega) (by omega)
  have HVva := Lib.hid hv
  clear hv
  go_wp2_with fail
  refine HN.out.mono ?_
  rintro e w1 ⟨rfl, hr, hg⟩
  have HS := Lib.hid (HS.out.next hr hg)
  clear hr hg HN
  have HN := Lib.hid (numR4 (w.heap.size + 1) l1 b1 w1 HS.out.box HB.out.1 HB.out.2)
  have HG := Lib.hid (step_num (k := 4) (l1 := l1) HG.out HCN.out)
  dsimp only at HG
  have hv := rv_bd HB.out.1 4
  rw [pow4] at hv
  have HB := Lib.hid (And.intro (rd_BL HB.out.1 4) (Nat.le_trans (rd_len l1 4) HB.out.2))
  unfold RNum at HN
  generalize rv l1 4 = vb at *
  generalize rd l1 4 = l2 at *
  generalize rx l1 4 b1 = b2 at *
  have HVvb := Lib.hid hv
  clear hv
  go_wp2_with fail
  refine HN.out.mono ?_
  rintro e w2 ⟨rfl, hr, hg⟩
  have HS := Lib.hid (HS.out.next hr hg)
  clear hr hg HN
  have n0 := HS.out.rr.bld.c0
  have fr0 := HS.out.rr.frx 0
  have n1 := HS.out.rr.bld.c1
  have fr1 := HS.out.rr.frx 1
  have HS := Lib.hid (HS.out.put (HS.out.rr.set0 va))
  have HS := Lib.hid (HS.out.put (HS.out.rr.set1 vb))
  have HS : Hid (RqSt w ((w2.setCell ⟨w.heap.size + 1 + 1, 0, none⟩ (.int .i64 va)).setCell ⟨w.heap.size + 1 + 1, 1, none⟩ (.int .u64 vb)) w.heap.size l2 b2 w.heap.size ⟨va, vb, 0, 0, 0, 0, 0, ⟨#[]⟩⟩ (.slice none 0 0) (.slice none 0 0) [] []) := HS.out
  go_upto_region 6 with fail
  clear n0 fr0 n1 fr1
  generalize hWW : (w2.setCell ⟨w.heap.size + 1 + 1, 0, none⟩ (.int .i64 va)).setCell ⟨w.heap.size + 1 + 1, 1, none⟩ (.int .u64 vb) = W2 at *
  clear hWW
  have HN := Lib.hid (numR1 (w.heap.size + 1) l2 b2 W2 HS.out.box HB.out.1 HB.out.2)
  have HG := Lib.hid (step_num (k := 1) (l1 := l2) HG.out HCN.out)
  dsimp only at HG
  have hv := rv_bd HB.out.1 1
  rw [pow1] at hv
  have HB := Lib.hid (And.intro (rd_BL HB.out.1 1) (Nat.le_trans (rd_len l2 1) HB.out.2))
  unfold RNum at HN
  generalize rv l2 1 = vc at *
  generalize rd l2 1 = l3 at *
  generalize rx l2 1 b2 = b3 at *
  have hwvc := i64w vc (by omega) (by omega)
  have HVvc := Lib.hid hv
  clear hv
  go_wp2_with fail
  refine HN.out.mono ?_
  rintro e w3 ⟨rfl, hr, hg⟩
  have HS := Lib.hid (HS.out.next hr hg)
  clear hr hg HN
  have HN := Lib.hid (numR1 (w.heap.size + 1) l3 b3 w3 HS.out.box HB.out.1 HB.out.2)
  have HG := Lib.hid (step_num (k := 1) (l1 := l3) HG.out HCN.out)
  dsimp only at HG
  have hv := rv_bd HB.out.1 1
  rw [pow1] at hv
  have HB := Lib.hid (And.intro (rd_BL HB.out.1 1) (Nat.le_trans (rd_len l3 1) HB.out.2))
  unfold RNum at HN
  generalize rv l3 1 = vd at *
  generalize rd l3 1 = l4 at *
  generalize rx l3 1 b3 = b4 at *
  have hwvd := i64w vd (by omega) (by omega)
  have HVvd := Lib.hid hv
  clear hv
  go_wp2_with fail
  refine HN.out.mono ?_
  rintro e w4 ⟨rfl, hr, hg⟩
  have HS := Lib.hid (HS.out.next hr hg)
  clear hr hg HN
  have n2 := HS.out.rr.bld.c2
  have fr2 := HS.out.rr.frx 2
  have n3 := HS.out.rr.bld.c3
  have fr3 := HS.out.rr.frx 3
  have HS := Lib.hid (HS.out.put (HS.out.rr.set2 vc))
  have HS := Lib.hid (HS.out.put (HS.out.rr.set3 vd))
  have HS : Hid (RqSt w ((w4.setCell ⟨w.heap.size + 1 + 1, 2, none⟩ (.int .i64 vc)).setCell ⟨w.heap.size + 1 + 1, 3, none⟩ (.int .i64 vd)) w.heap.size l4 b4 w.heap.size ⟨va, vb, vc, vd, 0, 0, 0, ⟨#[]⟩⟩ (.slice none 0 0) (.slice none 0 0) [] []) := HS.out
  go_upto_region 7 with fail
  clear n2 fr2 n3 fr3
  generalize hWW : (w4.setCell ⟨w.heap.size + 1 + 1, 2, none⟩ (.int .i64 vc)).setCell ⟨w.heap.size + 1 + 1, 3, none⟩ (.int .i64 vd) = W4 at *
  clear hWW
  have HN := Lib.hid (numR1 (w.heap.size + 1) l4 b4 W4 HS.out.box HB.out.1 HB.out.2)
  have HG := Lib.hid (step_num (k := 1) (l1 := l4) HG.out HCN.out)
  dsimp only at HG
  have hv := rv_bd HB.out.1 1
  rw [pow1] at hv
  have HB := Lib.hid (And.intro (rd_BL HB.out.1 1) (Nat.le_trans (rd_len l4 1) HB.out.2))
  unfold RNum at HN
  generalize rv l4 1 = ve at *
  generalize rd l4 1 = l5 at *
  generalize rx l4 1 b4 = b5 at *
  have hwve := i64w ve (by omega) (by omega)
  have HVve := Lib.hid hv
  clear hv
  go_wp2_with fail
  refine HN.out.mono ?_
  rintro e w5 ⟨rfl, hr, hg⟩
  have HS := Lib.hid (HS.out.next hr hg)
  clear hr hg HN
  have HN := Lib.hid (numR1 (w.heap.size + 1) l5 b5 w5 HS.out.box HB.out.1 HB.out.2)
  have HG := Lib.hid (step_num (k := 1) (l1 := l5) HG.out HCN.out)
  dsimp only at HG
  have hv := rv_bd HB.out.1 1
  rw [pow1] at hv
  have HB := Lib.hid (And.intro (rd_BL HB.out.1 1) (Nat.le_trans (rd_len l5 1) HB.out.2))
  unfold RNum at HN
  generalize rv l5 1 = vg at *
  generalize rd l5 1 = l6 at *
  generalize rx l5 1 b5 = b6 at *
  have hwvg := i64w vg (by omega) (by omega)
  have HVvg := Lib.hid hv
  clear hv
  go_wp2_with fail
  refine HN.out.mono ?_
  rintro e w6 ⟨rfl, hr, hg⟩
  have HS := Lib.hid (HS.out.next hr hg)
  clear hr hg HN
  have HN := Lib.hid (numR1 (w.heap.size + 1) l6 b6 w6 HS.out.box HB.out.1 HB.out.2)
  have HG := Lib.hid (step_num (k := 1) (l1 := l6) HG.out HCN.out)
  dsimp only at HG
  have hv := rv_bd HB.out.1 1
  rw [pow1] at hv
  have HB := Lib.hid (And.intro (rd_BL HB.out.1 1) (Nat.le_trans (rd_len l6 1) HB.out.2))
  unfold RNum at HN
  generalize rv l6 1 = vh at *
  generalize rd l6 1 = l7 at *
  generalize rx l6 1 b6 = b7 at *
  have hwvh := i64w vh (by omega) (by omega)
  have HVvh := Lib.hid hv
  clear hv
  go_wp2_with fail
  refine HN.out.mono ?_
  rintro e w7 ⟨rfl, hr, hg⟩
  have HS := Lib.hid (HS.out.next hr hg)
  clear hr hg HN
  have n4 := HS.out.rr.bld.c4
  have fr4 := HS.out.rr.frx 4
  have n5 := HS.out.rr.bld.c5
  have fr5 := HS.out.rr.frx 5
  have n6 := HS.out.rr.bld.c6
  have fr6 := HS.out.rr.frx 6
  have HS := Lib.hid (HS.out.put (HS.out.rr.set4 ve))
  have HS := Lib.hid (HS.out.put (HS.out.rr.set5 vg))
  have HS := Lib.hid (HS.out.put (HS.out.rr.set6 vh))
  have HS : Hid (RqSt w (((w7.setCell ⟨w.heap.size + 1 + 1, 4, none⟩ (.int .i64 ve)).setCell ⟨w.heap.size + 1 + 1, 5, none⟩ (.int .i64 vg)).setCell ⟨w.heap.size + 1 + 1, 6, none⟩ (.int .i64 vh)) w.heap.size l7 b7 w.heap.size ⟨va, vb, vc, vd, ve, vg, vh, ⟨#[]⟩⟩ (.slice none 0 0) (.slice none 0 0) [] []) := HS.out
  go_upto_region 8 with fail
  clear n4 fr4 n5 fr5 n6 fr6
  generalize hWW : ((w7.setCell ⟨w.heap.size + 1 + 1, 4, none⟩ (.int .i64 ve)).setCell ⟨w.heap.size + 1 + 1, 5, none⟩ (.int .i64 vg)).setCell ⟨w.heap.size + 1 + 1, 6, none⟩ (.int .i64 vh) = W7 at *
  clear hWW
  have HN := Lib.hid (textR (w.heap.size + 1) l7 b7 W7 HS.out.box HB.out.1 HB.out.2)
  have HG := Lib.hid (step_text (l1 := l7) HG.out HCN.out)
  dsimp only at HG
  have HBO := HB
  have HB := Lib.hid (And.intro (td_BL HB.out.1) (Nat.le_trans (td_len l7) HB.out.2))
  have HTX : Hid ((tv l7).size ≤ 65536) := Nat.le_trans (tv_len l7) HBO.out.2
  unfold RTxt at HN
  generalize tv l7 = tx8 at *
  generalize td l7 = l8 at *
  generalize tx l7 b7 = b8 at *
  go_wp2_with fail
  refine HN.out.mono ?_
  rintro e w8 ⟨rfl, hr, hg⟩
  have HS := Lib.hid (HS.out.next hr hg)
  clear hr hg HN
  have n7 := HS.out.rr.bld.c7
  have fr7 := HS.out.rr.frx 7
  have HS := Lib.hid (HS.out.put (HS.out.rr.set7 tx8))
  have HS : Hid (RqSt w (w8.setCell ⟨w.heap.size + 1 + 1, 7, none⟩ (.string tx8)) w.heap.size l8 b8 w.heap.size ⟨va, vb, vc, vd, ve, vg, vh, tx8⟩ (.slice none 0 0) (.slice none 0 0) [] []) := HS.out
  go_upto_region 9 with fail
  clear n7 fr7
  generalize hWW : w8.setCell ⟨w.heap.size + 1 + 1, 7, none⟩ (.string tx8) = W8 at *
  clear hWW
  obtain ⟨cl, rfl⟩ : ∃ cl : Nat, vc = cl := ⟨vc.toNat, by have := HVvc.out.1; omega⟩
  have hcl : cl ≤ 255 := by have := HVvc.out.2; omega
  have HD : Hid (P ∨ (b8 = false ∧ dScr l = (dProgs cl l8).bind fun p => (dPicks p.2).map fun k => (⟨⟨va, vb, cl, vd, ve, vg, vh, tx8⟩, p.1, k.1⟩, k.2))) := by
    rcases HG.out with h | ⟨h1, h2⟩
    · exact .inl h
    · exact .inr ⟨h1, by unfold dScr; rw [h2]; simp only [Option.bind_some, Int.toNat_natCast]⟩
  clear HG HCN HVva HVvb HVvc HVvd HVve HVvg HVvh hwva hwvc hwvd hwve hwvg hwvh
  have n2 := HS.out.rr.bld.c2
  have HCF : Hid (cfgErr (⟨va, vb, cl, vd, ve, vg, vh, tx8⟩ : CfgV) = cfgErr ⟨va, vb, cl, vd, ve, vg, vh, tx8⟩) := rfl
  generalize hcf : (⟨va, vb, (cl : Int), vd, ve, vg, vh, tx8⟩ : CfgV) = cf at *
  have HCC : Hid (cf.clients = cl) := by show _ = _; rw [← hcf]
  have HTX : Hid (cf.text.size ≤ 65536) := by show _ ≤ _; rw [← hcf]; exact HTX.out
  clear hcf HCF
  have HDN : Hid (∀ k, k ≤ cl → dProgs k l8 = none → P) := fun k hk h => by
    rcases HD.out with h1 | ⟨_, h2⟩
    · exact h1
    · rw [← HPP.out, h2, dProgs_none hk h]; rfl
  go_wp2_with fail
  clear n2
  go_loopw [6] (fun i wr => ∃ (k : Nat) (b : Bool), k ≤ cl ∧ i = .int .i64 k ∧ Hid (∃ lim v8 ps r, lim ≤ wr.heap.size ∧ RqSt w wr w.heap.size r b lim cf v8 (.slice none 0 0) ps [] ∧ BL r ∧ r.length ≤ 65536 ∧ (P ∨ (b = false ∧ dProgs k l8 = some (ps, r))) ∧ ps.length = k ∧ ProgsIn1 ps)) (fun i _ => cl - (intOf i).toNat)
  case atStart => exact ⟨0, b8, Nat.zero_le _, rfl, w.heap.size, _, [], l8, by have := HS.out.rr.lt2; omega, HS.out, HB.out.1, HB.out.2, (HD.out.imp_right fun h => ⟨h.1, rfl⟩), rfl, fun p hp => by cases hp⟩
  case round =>
    obtain ⟨k, b, hk, rfl, HST⟩ := hrel
    clear HS HB
    obtain ⟨lim, v8, ps, r, hlim, hsc, hbl, hrl, hdp, hpl, hpi⟩ := HST.out
    have HP := Lib.hid hsc
    have HDP := Lib.hid hdp
    have HB := Lib.hid (And.intro hbl hrl)
    have HPL : Hid (ps.length = k) := hpl
    have HPI := Lib.hid hpi
    clear hsc hdp hbl hrl hpl hpi HST
    have n1 := HP.out.bad
    have n2 := HP.out.rr.bld.c2
    rw [HCC.out] at n2
    by_cases hlt : k < cl
    · have hki : (k : Int) < (cl : Int) := by omega
      cases b
      case true =>
        have HG1 : Hid (P ∨ (true = false ∧ dScr l = (dPicks r).map fun k => (⟨cf, ps, k.1⟩, k.2))) := HDP.out.imp_right fun h => absurd h.1 (by decide)
        have HPL : Hid (ps.length ≤ 255) := by show _ ≤ _; rw [HPL.out]; omega
        clear HDP HD HDN
        have HN := Lib.hid (numR2 (w.heap.size + 1) r true wr HP.out.box HB.out.1 HB.out.2)
        have HG2 := Lib.hid (step_num (k := 2) (l1 := r) (d := dScr l) (f := fun y => (dTake y.2 y.1.toNat).map fun k => (⟨cf, ps, k.1⟩, k.2)) (HG1.out.imp_right fun h => ⟨h.1, by rw [h.2, dPicks_map]⟩) (fun h => by rw [← HPP.out]; exact h))
        dsimp only at HG2
        have hv := rv_bd HB.out.1 2
        rw [pow2] at hv
        have HB2 := Lib.hid (And.intro (rd_BL HB.out.1 2) (Nat.le_trans (rd_len r 2) HB.out.2))
        unfold RNum at HN
        obtain ⟨n, hn⟩ : ∃ n : Nat, rv r 2 = n := ⟨(rv r 2).toNat, by omega⟩
        rw [hn] at HN HG2 hv
        rw [Int.toNat_natCast] at HG2
        generalize rd r 2 = r2 at *
        generalize rx r 2 true = b2 at *
        have hw := i64w n (by omega) (by omega)
        have hn1 : n ≤ 65535 := by omega
        clear hn hv
        go_wp2_with fail
        refine HN.out.mono ?_
        rintro e w5 ⟨rfl, hr, hg⟩
        have HP2 := Lib.hid (HP.out.next hr hg)
        clear hr hg HN HP HB HG1
        have HTN : Hid (¬ n ≤ r2.length → P) := fun h => by
          rcases HG2.out with h1 | ⟨_, h1⟩
          · exact h1
          · rw [← HPP.out, h1]; unfold dTake; rw [if_neg h]; rfl
        go_wp2_with fail
        go_loopw [11] (fun i wr => ∃ (j : Nat) (b : Bool), j ≤ n ∧ i = .int .i64 j ∧ Hid (∃ v9 ks r5, RqSt w wr w.heap.size r5 b lim cf v8 v9 ps ks ∧ BL r5 ∧ r5.length ≤ 65536 ∧ (P ∨ (b = false ∧ ks = r2.take j ∧ r5 = r2.drop j ∧ j ≤ r2.length)) ∧ ks.length = j)) (fun i _ => n - (intOf i).toNat)
        case atStart => exact ⟨0, b2, by omega, rfl, _, [], r2, HP2.out, HB2.out.1, HB2.out.2, (HG2.out.imp_right fun h => ⟨h.1, rfl, rfl, Nat.zero_le _⟩), rfl⟩
        case round =>
          obtain ⟨j, b, hj, rfl, HR⟩ := hrel
          clear HP2 HB2
          obtain ⟨v9, ks, r5, hsc, hbl, hrl, hgs, hkl⟩ := HR.out
          have HP := Lib.hid hsc
          have HB := Lib.hid (And.intro hbl hrl)
          have HGS := Lib.hid hgs
          have HKJ := Lib.hid hkl
          clear hsc hbl hrl hgs hkl HR
          have HKL : Hid (ks.length ≤ 65535) := by show _ ≤ _; rw [HKJ.out]; omega
          have n1 := HP.out.bad
          by_cases hjn : j < n
          · have hji : (j : Int) < (n : Int) := by omega
            cases b
            case true =>
              have HF : Hid (P ∨ (true = false ∧ dScr l = some (⟨cf, ps, ks⟩, r5))) := HGS.out.imp_right fun h => absurd h.1 (by decide)
              clear HGS HTN HG2
              have n1 := HP.out.bad
              have ns := HP.out.rr.str.cell
              have HNO : Hid (¬ ∃ s, ScrOk s ∧ ScrTy s ∧ encScr s = l) := by
                rcases HF.out with h | ⟨h, _⟩
                · rw [← HPP.out] at h
                  rintro ⟨s, h1, h2, h3⟩
                  have := ((dec_iff l HL.out.1 s).2 ⟨h1, h2, h3⟩).1
                  rw [h] at this; cases this
                · cases h
              have hres := HP.out.rr.res
              obtain ⟨e0, e1, e2, e3, e4, e5, e6, e7, e8, e9⟩ := box_cell (c := cfg0) (p := .slice none 0 0) (k := .slice none 0 0) hres
              dsimp only [cfg0] at e0 e1 e2 e3 e4 e5 e6 e7
              have hzz : ElemT wr w.heap.size 28 := ⟨_, hres⟩
              have z0 := hzz.frozen 0
              have z1 := hzz.frozen 1
              have z2 := hzz.frozen 2
              have z3 := hzz.frozen 3
              have z4 := hzz.frozen 4
              have z5 := hzz.frozen 5
              have z6 := hzz.frozen 6
              have z7 := hzz.frozen 7
              have z8 := hzz.frozen 8
              have z9 := hzz.frozen 9
              clear hres hzz
              go_wp2_with fail
              rw [show (((((((((wr.setCell ⟨w.heap.size, 0, none⟩ (.int .i64 0)).setCell ⟨w.heap.size, 1, none⟩ (.int .u64 0)).setCell ⟨w.heap.size, 2, none⟩ (.int .i64 0)).setCell ⟨w.heap.size, 3, none⟩ (.int .i64 0)).setCell ⟨w.heap.size, 4, none⟩ (.int .i64 0)).setCell ⟨w.heap.size, 5, none⟩ (.int .i64 0)).setCell ⟨w.heap.size, 6, none⟩ (.int .i64 0)).setCell ⟨w.heap.size, 7, none⟩ (.string ⟨#[]⟩)).setCell ⟨w.heap.size, 8, none⟩ (.slice none 0 0)).setCell ⟨w.heap.size, 9, none⟩ (.slice none 0 0) = scrSet wr w.heap.size cfg0 (.slice none 0 0) (.slice none 0 0) from rfl]
              exact err19 rfl rfl HP.out HL.out.2 HNO.out
            case false =>
              have HG3 := Lib.hid (pick_step HGS.out (fun h => HTN.out (by omega)))
              have HPd := Lib.hid (HP.out.drew)
              have HNX := Lib.hid (numR1 (w.heap.size + 1) r5 false wr.drew HPd.out.box HB.out.1 HB.out.2)
              have hv := rv_bd HB.out.1 1
              rw [pow1] at hv
              have HB2 := Lib.hid (And.intro (rd_BL HB.out.1 1) (Nat.le_trans (rd_len r5 1) HB.out.2))
              unfold RNum at HNX
              generalize rv r5 1 = x at *
              generalize rd r5 1 = r6 at *
              generalize rx r5 1 false = b6 at *
              have hwx : IntKind.i64.wrap x = x := IntWalk.i64_in _ (by omega)
              clear hv
              have n9 := HP.out.rr.bld.c9
              obtain ⟨A9, c9, rfl⟩ := own_slice HP.out.rr.bld.picks
              generalize hnk : ks.length = nk at *
              have HNK := Lib.hid hnk
              clear hnk
              have hnk2 : nk ≤ 65536 := by have := HKL.out; omega
              have hB : w.heap.size ≤ wr.heap.size := by have := HP.out.rr.lt2; omega
              obtain ⟨i0, hi, hz0, hz1, hz2⟩ := info_parts int_info
              go_wp2_with fail
              go_region_law (first
                | (go_simp; go_at_call 46; refine HNX.out.mono ?_; rintro e w10 ⟨rfl, hb, hg⟩; (have HP1 := Lib.hid (HPd.out.next hb hg)); (have m9 := HP1.out.rr.bld.c9); (have HO1 : Hid (w10.ownsRow w.heap.size 3 1 (.slice A9 nk c9) nk (ks.map (Value.int .i64))) := by have := HP1.out.rr.bld.picks; rw [HNK.out] at this; exact this); (have m9a : (w10.alloc (Obj.cells #[Value.int IntKind.i64 x] 3)).cell? ⟨w.heap.size + 1 + 1, 9, none⟩ = some (.slice A9 nk c9) := (HP1.out.alloc _).rr.bld.c9); (have hgz : wr.heap.size ≤ w10.heap.size := hg.size); clear hb hg)
                | (refine step_append_lies _ rfl (.tmp 115) (.tmp 119) 26 rfl w.heap.size 3 i0 (.int .i64 0) 1 8 Try.underlying26 hi hz0 hz1 hz2 rfl (by decide) (.slice A9 nk c9) nk (ks.map (Value.int .i64)) (by simp [Act.eval]) (HO1.out.alloc _) _ 1 1 [.int .i64 x] (by simp [Act.eval]) rfl (news_one' _ _ _) (one_one _) (by omega) (by unfold maxLen; omega) (by omega) (by simp; omega) _ rfl ?_; intro g cap w11 hown hgrow _ _; (obtain ⟨q1, q2, q3⟩ := pick_pushedQ HP1.out HNK.out hown hgrow); (have HA := Lib.hid q3); clear hown hgrow q3))
              all_goals
                go_wp2_with fail
                go_roundw
                case rel => exact ⟨j + 1, b6, by omega, by go_num, _, _, _, HA.out, HB2.out.1, HB2.out.2, HG3.out, by rw [List.length_append, HNK.out, HKJ.out]; rfl⟩
                case measure => simp [intOf]; omega
          · obtain rfl : j = n := by omega
            have HF : Hid (P ∨ (b = false ∧ dScr l = some (⟨cf, ps, ks⟩, r5))) := by
              rcases HGS.out with h | ⟨h, h1, h2, h3⟩
              · exact .inl h
              rcases HG2.out with g | ⟨_, g⟩
              · exact .inl g
              refine .inr ⟨h, ?_⟩
              rw [g, h1, h2]; unfold dTake; rw [if_pos h3]; rfl
            clear HGS HTN HG2
            cases b
            case true =>
              have n1 := HP.out.bad
              have ns := HP.out.rr.str.cell
              have HNO : Hid (¬ ∃ s, ScrOk s ∧ ScrTy s ∧ encScr s = l) := by
                rcases HF.out with h | ⟨h, _⟩
                · rw [← HPP.out] at h
                  rintro ⟨s, h1, h2, h3⟩
                  have := ((dec_iff l HL.out.1 s).2 ⟨h1, h2, h3⟩).1
                  rw [h] at this; cases this
                · cases h
              have hres := HP.out.rr.res
              obtain ⟨e0, e1, e2, e3, e4, e5, e6, e7, e8, e9⟩ := box_cell (c := cfg0) (p := .slice none 0 0) (k := .slice none 0 0) hres
              dsimp only [cfg0] at e0 e1 e2 e3 e4 e5 e6 e7
              have hzz : ElemT wr w.heap.size 28 := ⟨_, hres⟩
              have z0 := hzz.frozen 0
              have z1 := hzz.frozen 1
              have z2 := hzz.frozen 2
              have z3 := hzz.frozen 3
              have z4 := hzz.frozen 4
              have z5 := hzz.frozen 5
              have z6 := hzz.frozen 6
              have z7 := hzz.frozen 7
              have z8 := hzz.frozen 8
              have z9 := hzz.frozen 9
              clear hres hzz
              go_wp2_with fail
              rw [show (((((((((wr.setCell ⟨w.heap.size, 0, none⟩ (.int .i64 0)).setCell ⟨w.heap.size, 1, none⟩ (.int .u64 0)).setCell ⟨w.heap.size, 2, none⟩ (.int .i64 0)).setCell ⟨w.heap.size, 3, none⟩ (.int .i64 0)).setCell ⟨w.heap.size, 4, none⟩ (.int .i64 0)).setCell ⟨w.heap.size, 5, none⟩ (.int .i64 0)).setCell ⟨w.heap.size, 6, none⟩ (.int .i64 0)).setCell ⟨w.heap.size, 7, none⟩ (.string ⟨#[]⟩)).setCell ⟨w.heap.size, 8, none⟩ (.slice none 0 0)).setCell ⟨w.heap.size, 9, none⟩ (.slice none 0 0) = scrSet wr w.heap.size cfg0 (.slice none 0 0) (.slice none 0 0) from rfl]
              exact err19 rfl rfl HP.out HL.out.2 HNO.out
            case false =>
              have n1 := HP.out.bad
              have ns := HP.out.rr.str.cell
              have HF2 : Hid (dScr l = none ∨ dScr l = some (⟨cf, ps, ks⟩, r5)) := by
                rcases HF.out with h | ⟨_, h⟩
                · rw [← HPP.out] at h; exact .inl h
                · exact .inr h
              by_cases hr : r5 = []
              case neg =>
                have hbr : (bs r5).toList.isEmpty = false := by
                  revert hr
                  cases r5 with
                  | nil => intro h; exact absurd rfl h
                  | cons x y => intro _; simp [bs]
                have HNO := Lib.hid (dec_not HL.out.1 HF2.out (.inl hr))
                have hres := HP.out.rr.res
                obtain ⟨e0, e1, e2, e3, e4, e5, e6, e7, e8, e9⟩ := box_cell (c := cfg0) (p := .slice none 0 0) (k := .slice none 0 0) hres
                dsimp only [cfg0] at e0 e1 e2 e3 e4 e5 e6 e7
                have hzz : ElemT wr w.heap.size 28 := ⟨_, hres⟩
                have z0 := hzz.frozen 0
                have z1 := hzz.frozen 1
                have z2 := hzz.frozen 2
                have z3 := hzz.frozen 3
                have z4 := hzz.frozen 4
                have z5 := hzz.frozen 5
                have z6 := hzz.frozen 6
                have z7 := hzz.frozen 7
                have z8 := hzz.frozen 8
                have z9 := hzz.frozen 9
                clear hres hzz
                go_wp2_with fail
                rw [show (((((((((wr.setCell ⟨w.heap.size, 0, none⟩ (.int .i64 0)).setCell ⟨w.heap.size, 1, none⟩ (.int .u64 0)).setCell ⟨w.heap.size, 2, none⟩ (.int .i64 0)).setCell ⟨w.heap.size, 3, none⟩ (.int .i64 0)).setCell ⟨w.heap.size, 4, none⟩ (.int .i64 0)).setCell ⟨w.heap.size, 5, none⟩ (.int .i64 0)).setCell ⟨w.heap.size, 6, none⟩ (.int .i64 0)).setCell ⟨w.heap.size, 7, none⟩ (.string ⟨#[]⟩)).setCell ⟨w.heap.size, 8, none⟩ (.slice none 0 0)).setCell ⟨w.heap.size, 9, none⟩ (.slice none 0 0) = scrSet wr w.heap.size cfg0 (.slice none 0 0) (.slice none 0 0) from rfl]
                exact err19 rfl rfl HP.out HL.out.2 HNO.out
              case pos =>
                subst hr
                have hbr : (bs []).toList.isEmpty = true := by decide +kernel
                obtain ⟨A8, x8, A9, x9, rfl, rfl, hP8, hK9⟩ := HP.out.form
                have HTY : Hid (ScrTy ⟨cf, ps, ks⟩) := fun p hp o ho => ((HPI.out p hp).2 o ho).1
                have HE := Lib.hid (scriptEncodeR ⟨cf, ps, ks⟩ A8 A9 x8 x9 wr ⟨Nat.le_trans HTX.out (by decide), by have := HPL.out; show ps.length ≤ _; omega, fun p hp => Nat.le_trans (HPI.out p hp).1 (by decide), by have := HKL.out; show ks.length ≤ _; omega, fun p hp o ho => ((HPI.out p hp).2 o ho).2.1⟩ (fun p hp o ho => ((HPI.out p hp).2 o ho).2.2) hP8 hK9 HTY.out)
                clear hP8 hK9
                have q0 := HP.out.rr.bld.c0
                have q1 := HP.out.rr.bld.c1
                have q2 := HP.out.rr.bld.c2
                have q3 := HP.out.rr.bld.c3
                have q4 := HP.out.rr.bld.c4
                have q5 := HP.out.rr.bld.c5
                have q6 := HP.out.rr.bld.c6
                have q7 := HP.out.rr.bld.c7
                have q8 := HP.out.rr.bld.c8
                have q9 := HP.out.rr.bld.c9
                have hclt := HP.out.rr.lt2
                go_wp2_with fail
                refine HE.out.mono ?_
                rintro e w27 ⟨rfl, hb⟩
                have HQ := Lib.hid (HP.out.below hb)
                clear hb HE q0 q1 q2 q3 q4 q5 q6 q7 q8 q9 n1 ns
                have hres := HQ.out.rr.res
                obtain ⟨e0, e1, e2, e3, e4, e5, e6, e7, e8, e9⟩ := box_cell (c := cfg0) (p := .slice none 0 0) (k := .slice none 0 0) hres
                dsimp only [cfg0] at e0 e1 e2 e3 e4 e5 e6 e7
                have hzz : ElemT w27 w.heap.size 28 := ⟨_, hres⟩
                have z0 := hzz.frozen 0
                have z1 := hzz.frozen 1
                have z2 := hzz.frozen 2
                have z3 := hzz.frozen 3
                have z4 := hzz.frozen 4
                have z5 := hzz.frozen 5
                have z6 := hzz.frozen 6
                have z7 := hzz.frozen 7
                have z8 := hzz.frozen 8
                have z9 := hzz.frozen 9
                clear hres hzz
                by_cases hk : chkScr ⟨cf, ps, ks⟩ = 0
                case neg =>
                  have HNO := Lib.hid (dec_not HL.out.1 HF2.out (.inr (.inl hk)))
                  rw [if_neg hk]
                  generalize chkScr ⟨cf, ps, ks⟩ = kk at *
                  have hkk : (kk != 0) = true := by simpa using hk
                  clear hk
                  go_wp2_with fail
                  rw [show (((((((((w27.setCell ⟨w.heap.size, 0, none⟩ (.int .i64 0)).setCell ⟨w.heap.size, 1, none⟩ (.int .u64 0)).setCell ⟨w.heap.size, 2, none⟩ (.int .i64 0)).setCell ⟨w.heap.size, 3, none⟩ (.int .i64 0)).setCell ⟨w.heap.size, 4, none⟩ (.int .i64 0)).setCell ⟨w.heap.size, 5, none⟩ (.int .i64 0)).setCell ⟨w.heap.size, 6, none⟩ (.int .i64 0)).setCell ⟨w.heap.size, 7, none⟩ (.string ⟨#[]⟩)).setCell ⟨w.heap.size, 8, none⟩ (.slice none 0 0)).setCell ⟨w.heap.size, 9, none⟩ (.slice none 0 0) = scrSet w27 w.heap.size cfg0 (.slice none 0 0) (.slice none 0 0) from rfl]
                  exact err19 rfl rfl HQ.out HL.out.2 HNO.out
                case pos =>
                  rw [if_pos hk, hk]
                  have HO := Lib.hid ((chk_iff _).1 hk)
                  clear hk
                  by_cases he : encScr ⟨cf, ps, ks⟩ = l
                  case neg =>
                    have HNO := Lib.hid (dec_not HL.out.1 HF2.out (.inr (.inr he)))
                    have hne : ((bs (encScr ⟨cf, ps, ks⟩)).toList == (bs l).toList) = false := by
                      rw [beq_eq_false_iff_ne]
                      exact fun h => he ((bs_eq (encScr_BL _) HL.out.1).1 (bytes_ext.1 h))
                    clear he
                    generalize bs (encScr ⟨cf, ps, ks⟩) = te at *
                    go_wp2_with fail
                    rw [show (((((((((w27.setCell ⟨w.heap.size, 0, none⟩ (.int .i64 0)).setCell ⟨w.heap.size, 1, none⟩ (.int .u64 0)).setCell ⟨w.heap.size, 2, none⟩ (.int .i64 0)).setCell ⟨w.heap.size, 3, none⟩ (.int .i64 0)).setCell ⟨w.heap.size, 4, none⟩ (.int .i64 0)).setCell ⟨w.heap.size, 5, none⟩ (.int .i64 0)).setCell ⟨w.heap.size, 6, none⟩ (.int .i64 0)).setCell ⟨w.heap.size, 7, none⟩ (.string ⟨#[]⟩)).setCell ⟨w.heap.size, 8, none⟩ (.slice none 0 0)).setCell ⟨w.heap.size, 9, none⟩ (.slice none 0 0) = scrSet w27 w.heap.size cfg0 (.slice none 0 0) (.slice none 0 0) from rfl]
                    exact err19 rfl rfl HQ.out HL.out.2 HNO.out
                  case pos =>
                    rw [he]
                    have hne : ((bs l).toList == (bs l).toList) = true := by simp
                    have HE2 := Lib.hid he
                    clear he
                    have q0 := HQ.out.rr.bld.c0
                    have q1 := HQ.out.rr.bld.c1
                    have q2 := HQ.out.rr.bld.c2
                    have q3 := HQ.out.rr.bld.c3
                    have q4 := HQ.out.rr.bld.c4
                    have q5 := HQ.out.rr.bld.c5
                    have q6 := HQ.out.rr.bld.c6
                    have q7 := HQ.out.rr.bld.c7
                    have q8 := HQ.out.rr.bld.c8
                    have q9 := HQ.out.rr.bld.c9
                    go_wp2_with fail
                    rw [show (((((((((w27.setCell ⟨w.heap.size, 0, none⟩ (.int .i64 cf.slots)).setCell ⟨w.heap.size, 1, none⟩ (.int .u64 cf.gens)).setCell ⟨w.heap.size, 2, none⟩ (.int .i64 cf.clients)).setCell ⟨w.heap.size, 3, none⟩ (.int .i64 cf.readers)).setCell ⟨w.heap.size, 4, none⟩ (.int .i64 cf.queue)).setCell ⟨w.heap.size, 5, none⟩ (.int .i64 cf.batch)).setCell ⟨w.heap.size, 6, none⟩ (.int .i64 cf.feed)).setCell ⟨w.heap.size, 7, none⟩ (.string cf.text)).setCell ⟨w.heap.size, 8, none⟩ (.slice A8 ps.length x8)).setCell ⟨w.heap.size, 9, none⟩ (.slice A9 ks.length x9) = scrSet w27 w.heap.size cf (.slice A8 ps.length x8) (.slice A9 ks.length x9) from rfl]
                    exact ret19 rfl rfl HQ.out HO.out HTY.out HE2.out
      case false =>
        have HN := Lib.hid (numR2 (w.heap.size + 1) r false wr HP.out.box HB.out.1 HB.out.2)
        have HG2 := Lib.hid (step_num (k := 2) (l1 := r) (d := dProgs (k + 1) l8) (f := fun z => (dOps z.1.toNat z.2).map fun u => (ps ++ [u.1], u.2)) (HDP.out.imp_right fun h => ⟨rfl, dProgs_next h.2⟩) (fun h => HDN.out (k + 1) hlt h))
        dsimp only at HG2
        have hv := rv_bd HB.out.1 2
        rw [pow2] at hv
        have HB2 := Lib.hid (And.intro (rd_BL HB.out.1 2) (Nat.le_trans (rd_len r 2) HB.out.2))
        unfold RNum at HN
        obtain ⟨m, hm'⟩ : ∃ m : Nat, rv r 2 = m := ⟨(rv r 2).toNat, by omega⟩
        rw [hm'] at HN HG2 hv
        rw [Int.toNat_natCast] at HG2
        generalize rd r 2 = r2 at *
        generalize rx r 2 false = b2 at *
        have hw := i64w m (by omega) (by omega)
        have hm1 : m ≤ 65535 := by omega
        clear hm' hv
        go_wp2_with fail
        refine HN.out.mono ?_
        rintro e w5 ⟨rfl, hr, hg⟩
        have hgs := hg.size
        have HP2 : Hid (RqSt w w5 w.heap.size r2 b2 w5.heap.size cf v8 (.slice none 0 0) ps []) := (HP.out.next hr hg).more (by omega)
        have HL4 : Hid (w.heap.size + 1 + 1 + 1 ≤ w5.heap.size) := HP2.out.rr.lt2
        clear hr hg HN HP HB hgs hlim n1 n2
        have HMN : Hid (dOps m r2 = none → P) := fun h => by
          rcases HG2.out with h1 | ⟨_, h1⟩
          · exact h1
          · exact HDN.out (k + 1) hlt (by rw [h1, h]; rfl)
        go_wp2_with fail
        go_loopw [8, 9] (fun v i wr => ∃ (j : Nat) (v7 : Value) (b : Bool), j ≤ m ∧ v = v7 ∧ i = .int .i64 j ∧ Hid (∃ xs r3, RqSt w wr w.heap.size r3 b w5.heap.size cf v8 (.slice none 0 0) ps [] ∧ CurRow wr w5.heap.size v7 xs ∧ BL r3 ∧ r3.length ≤ 65536 ∧ (P ∨ (b = false ∧ dOps j r2 = some (xs, r3))) ∧ xs.length = j ∧ OpsIn1 xs) ∧ w5.heap.size ≤ wr.heap.size) (fun _ i _ => m - (intOf i).toNat)
        case atStart => exact ⟨0, _, b2, Nat.zero_le _, rfl, rfl, ⟨[], r2, HP2.out, World.ownsRow_nil _ _ _ _, HB2.out.1, HB2.out.2, (HG2.out.imp_right fun h => ⟨h.1, rfl⟩), rfl, fun o ho => by cases ho⟩, Nat.le_refl _⟩
        case round =>
          obtain ⟨j, v7, b, hj, rfl, rfl, HR, hlw⟩ := hrel
          clear HP2 HB2
          obtain ⟨xs, r3, hsc, hcr, hbl, hrl, hdo, hxl, hoi⟩ := HR.out
          have HP := Lib.hid hsc
          have HDO := Lib.hid hdo
          have HC := Lib.hid hcr
          have HXL : Hid (xs.length = j) := hxl
          have HB := Lib.hid (And.intro hbl hrl)
          have HOI := Lib.hid hoi
          clear hsc hdo hcr hbl hrl hxl hoi HR
          have n1 := HP.out.bad
          by_cases hjm : j < m
          · have hji : (j : Int) < (m : Int) := by omega
            cases b
            case true =>
              have HDE : Hid (P ∨ (true = false ∧ dProgs (k + 1) l8 = some (ps ++ [xs], r3))) := HDO.out.imp_right fun h => absurd h.1 (by decide)
              have n8 := HP.out.rr.bld.c8
              obtain ⟨A, c, rfl⟩ := own_form HC.out
              obtain ⟨vals, h8, hp⟩ := HP.out.rr.bld.progs
              have H8 := Lib.hid h8
              have HPV := Lib.hid hp
              clear h8 hp
              obtain ⟨i0, hi, hz0, hz1, hz2⟩ := info_parts slice_info
              have hpl : ps.length < 256 := by have := HPL.out; omega
              have hB11 : w.heap.size ≤ wr.heap.size := by have := HP.out.rr.lt2; omega
              have HXM : Hid (xs.length ≤ 65536) := by show _ ≤ _; have := HXL.out; omega
              generalize hnx : xs.length = nx at *
              have HNX := Lib.hid hnx
              clear hnx
              go_wp2_with (at_builtin; go_loud (refine wpList_append_own _ rfl _ _ 25 rfl w.heap.size 41 i0 (.slice none 0 0) 1 24 Try.underlying25 hi hz0 hz1 hz2 rfl (by decide) _ _ _ rfl (H8.out.alloc _) ⟨wr.heap.size, 0, none⟩ 1 1 [.slice A nx c] rfl rfl (news_val _ _ _) (one_slice _ _ _) ?c3 ?c4 ?c5 ?_))
              case c3 => unfold maxLen; omega
              case c4 => omega
              case c5 => simp; omega
              intro v' w12 hown hgrow _
              obtain ⟨A', c', rfl⟩ := own_form hown
              have hgz : wr.heap.size ≤ w12.heap.size := by have := hgrow.size; simp at this; omega
              obtain ⟨q1, q2, q3⟩ := prog_pushedQ HP.out HC.out hlw H8.out HPV.out hown hgrow
              have HA := Lib.hid q3
              have HPI2 := Lib.hid (HPI.out.snoc (by rw [HNX.out]; exact HXM.out) HOI.out)
              clear hown hgrow HP HC H8 HPV q3
              go_wp2_with fail
              go_roundw
              case rel => exact ⟨k + 1, true, by omega, by go_num, _, _, _, _, by simp; exact hgz, HA.out, HB.out.1, HB.out.2, HDE.out, by rw [List.length_append, HPL.out]; rfl, HPI2.out⟩
              case measure => simp [intOf]; omega
            case false =>
              have HO := Lib.hid (readOpR (w.heap.size + 1) r3 false wr HP.out.box HB.out.1 HB.out.2)
              have HG3 := Lib.hid (step_op HDO.out (fun h => HMN.out (dOps_none (by omega) h)))
              have HI := Lib.hid (opR_in HB.out.1 false)
              have HOI2 := Lib.hid (HOI.out.snoc HB.out.1 false)
              unfold ROp at HO
              generalize opR r3 false = z at *
              obtain ⟨o, r4, b4⟩ := z
              dsimp only at HO HG3 HOI2
              have HB4 : Hid (BL r4 ∧ r4.length ≤ 65536) := ⟨HI.out.bl, Nat.le_trans HI.out.len HB.out.2⟩
              clear HI HDO HOI
              go_wp2_with fail
              refine HO.out.mono ?_
              rintro e w6 ⟨rfl, hr, hg⟩
              have HP6 := Lib.hid (HP.out.next hr hg)
              have HC6 := Lib.hid (HC.out.kept hg (fun q e hv => by injection e with e; subst e; exact (own_elem HC.out hv).ne HP.out.rr.str.elem (by decide) rfl))
              have hl6 : w5.heap.size ≤ w6.heap.size := Nat.le_trans hlw hg.size
              clear hr hg HP HC HO n1
              obtain ⟨i0, hi, hz0, hz1, hz2⟩ := info_parts op_info
              go_wp2_with (at_builtin; refine wpList_append_own _ rfl _ _ 41 rfl w5.heap.size 44 i0 (.agg #[.int .u8 0, .int .i64 0, .int .i64 0, .int .i64 0, .int .u32 0, .int .u8 0, .string ⟨#[]⟩]) 7 56 Try.underlying41 hi hz0 hz1 hz2 rfl (by decide) _ _ _ rfl (HC6.out.alloc _) ⟨w6.heap.size, 0, none⟩ 1 1 (opCells o) rfl rfl (news_op _ _ _) (one_op _) ?c3 ?c4 ?c5 ?_)
              case c3 => have := HXL.out; unfold maxLen; omega
              case c4 => have := HXL.out; omega
              case c5 => simp; omega
              intro v' w7 hown hgrow _
              have HA := Lib.hid (ops_pushedQ HP6.out HC6.out hl6 HL4.out hown hgrow)
              clear hown hgrow HP6 HC6
              go_wp2_with fail
              go_roundw
              case rel => exact ⟨j + 1, _, b4, by omega, rfl, by go_num, ⟨_, _, HA.out.1, HA.out.2.1, HB4.out.1, HB4.out.2, HG3.out, by simp [HXL.out], HOI2.out⟩, HA.out.2.2⟩
              case measure => simp [intOf]; omega
          · obtain rfl : j = m := by omega
            have HDE : Hid (P ∨ (b = false ∧ dProgs (k + 1) l8 = some (ps ++ [xs], r3))) := by
              rcases HDO.out with h | ⟨h, h1⟩
              · exact .inl h
              rcases HG2.out with g | ⟨_, g⟩
              · exact .inl g
              exact .inr ⟨h, by rw [g, h1]; rfl⟩
            have n8 := HP.out.rr.bld.c8
            obtain ⟨A, c, rfl⟩ := own_form HC.out
            obtain ⟨vals, h8, hp⟩ := HP.out.rr.bld.progs
            have H8 := Lib.hid h8
            have HPV := Lib.hid hp
            clear h8 hp
            obtain ⟨i0, hi, hz0, hz1, hz2⟩ := info_parts slice_info
            have hpl : ps.length < 256 := by have := HPL.out; omega
            have hB11 : w.heap.size ≤ wr.heap.size := by have := HP.out.rr.lt2; omega
            have HXM : Hid (xs.length ≤ 65536) := by show _ ≤ _; have := HXL.out; omega
            generalize hnx : xs.length = nx at *
            have HNX := Lib.hid hnx
            clear hnx
            go_wp2_with (at_builtin; go_loud (refine wpList_append_own _ rfl _ _ 25 rfl w.heap.size 41 i0 (.slice none 0 0) 1 24 Try.underlying25 hi hz0 hz1 hz2 rfl (by decide) _ _ _ rfl (H8.out.alloc _) ⟨wr.heap.size, 0, none⟩ 1 1 [.slice A nx c] rfl rfl (news_val _ _ _) (one_slice _ _ _) ?c3 ?c4 ?c5 ?_))
            case c3 => unfold maxLen; omega
            case c4 => omega
            case c5 => simp; omega
            intro v' w12 hown hgrow _
            obtain ⟨A', c', rfl⟩ := own_form hown
            have hgz : wr.heap.size ≤ w12.heap.size := by have := hgrow.size; simp at this; omega
            obtain ⟨q1, q2, q3⟩ := prog_pushedQ HP.out HC.out hlw H8.out HPV.out hown hgrow
            have HA := Lib.hid q3
            have HPI2 := Lib.hid (HPI.out.snoc (by rw [HNX.out]; exact HXM.out) HOI.out)
            clear hown hgrow HP HC H8 HPV q3
            go_wp2_with fail
            go_roundw
            case rel => exact ⟨k + 1, b, by omega, by go_num, _, _, _, _, by simp; exact hgz, HA.out, HB.out.1, HB.out.2, HDE.out, by rw [List.length_append, HPL.out]; rfl, HPI2.out⟩
            case measure => simp [intOf]; omega
    · obtain rfl : k = cl := by omega
      have HG1 : Hid (P ∨ (b = false ∧ dScr l = (dPicks r).map fun k => (⟨cf, ps, k.1⟩, k.2))) := by
        rcases HDP.out with h | ⟨h, h1⟩
        · exact .inl h
        rcases HD.out with g | ⟨_, g⟩
        · exact .inl g
        exact .inr ⟨h, by rw [g, h1]; rfl⟩
      have HPL : Hid (ps.length ≤ 255) := by show _ ≤ _; rw [HPL.out]; omega
      clear HDP HD HDN
      have HN := Lib.hid (numR2 (w.heap.size + 1) r b wr HP.out.box HB.out.1 HB.out.2)
      have HG2 := Lib.hid (step_num (k := 2) (l1 := r) (d := dScr l) (f := fun y => (dTake y.2 y.1.toNat).map fun k => (⟨cf, ps, k.1⟩, k.2)) (HG1.out.imp_right fun h => ⟨h.1, by rw [h.2, dPicks_map]⟩) (fun h => by rw [← HPP.out]; exact h))
      dsimp only at HG2
      have hv := rv_bd HB.out.1 2
      rw [pow2] at hv
      have HB2 := Lib.hid (And.intro (rd_BL HB.out.1 2) (Nat.le_trans (rd_len r 2) HB.out.2))
      unfold RNum at HN
      obtain ⟨n, hn⟩ : ∃ n : Nat, rv r 2 = n := ⟨(rv r 2).toNat, by omega⟩
      rw [hn] at HN HG2 hv
      rw [Int.toNat_natCast] at HG2
      generalize rd r 2 = r2 at *
      generalize rx r 2 b = b2 at *
      have hw := i64w n (by omega) (by omega)
      have hn1 : n ≤ 65535 := by omega
      clear hn hv
      go_wp2_with fail
      refine HN.out.mono ?_
      rintro e w5 ⟨rfl, hr, hg⟩
      have HP2 := Lib.hid (HP.out.next hr hg)
      clear hr hg HN HP HB HG1
      have HTN : Hid (¬ n ≤ r2.length → P) := fun h => by
        rcases HG2.out with h1 | ⟨_, h1⟩
        · exact h1
        · rw [← HPP.out, h1]; unfold dTake; rw [if_neg h]; rfl
      go_wp2_with fail
      go_loopw [11] (fun i wr => ∃ (j : Nat) (b : Bool), j ≤ n ∧ i = .int .i64 j ∧ Hid (∃ v9 ks r5, RqSt w wr w.heap.size r5 b lim cf v8 v9 ps ks ∧ BL r5 ∧ r5.length ≤ 65536 ∧ (P ∨ (b = false ∧ ks = r2.take j ∧ r5 = r2.drop j ∧ j ≤ r2.length)) ∧ ks.length = j)) (fun i _ => n - (intOf i).toNat)
      case atStart => exact ⟨0, b2, by omega, rfl, _, [], r2, HP2.out, HB2.out.1, HB2.out.2, (HG2.out.imp_right fun h => ⟨h.1, rfl, rfl, Nat.zero_le _⟩), rfl⟩
      case round =>
        obtain ⟨j, b, hj, rfl, HR⟩ := hrel
        clear HP2 HB2
        obtain ⟨v9, ks, r5, hsc, hbl, hrl, hgs, hkl⟩ := HR.out
        have HP := Lib.hid hsc
        have HB := Lib.hid (And.intro hbl hrl)
        have HGS := Lib.hid hgs
        have HKJ := Lib.hid hkl
        clear hsc hbl hrl hgs hkl HR
        have HKL : Hid (ks.length ≤ 65535) := by show _ ≤ _; rw [HKJ.out]; omega
        have n1 := HP.out.bad
        by_cases hjn : j < n
        · have hji : (j : Int) < (n : Int) := by omega
          cases b
          case true =>
            have HF : Hid (P ∨ (true = false ∧ dScr l = some (⟨cf, ps, ks⟩, r5))) := HGS.out.imp_right fun h => absurd h.1 (by decide)
            clear HGS HTN HG2
            have n1 := HP.out.bad
            have ns := HP.out.rr.str.cell
            have HNO : Hid (¬ ∃ s, ScrOk s ∧ ScrTy s ∧ encScr s = l) := by
              rcases HF.out with h | ⟨h, _⟩
              · rw [← HPP.out] at h
                rintro ⟨s, h1, h2, h3⟩
                have := ((dec_iff l HL.out.1 s).2 ⟨h1, h2, h3⟩).1
                rw [h] at this; cases this
              · cases h
            have hres := HP.out.rr.res
            obtain ⟨e0, e1, e2, e3, e4, e5, e6, e7, e8, e9⟩ := box_cell (c := cfg0) (p := .slice none 0 0) (k := .slice none 0 0) hres
            dsimp only [cfg0] at e0 e1 e2 e3 e4 e5 e6 e7
            have hzz : ElemT wr w.heap.size 28 := ⟨_, hres⟩
            have z0 := hzz.frozen 0
            have z1 := hzz.frozen 1
            have z2 := hzz.frozen 2
            have z3 := hzz.frozen 3
            have z4 := hzz.frozen 4
            have z5 := hzz.frozen 5
            have z6 := hzz.frozen 6
            have z7 := hzz.frozen 7
            have z8 := hzz.frozen 8
            have z9 := hzz.frozen 9
            clear hres hzz
            go_wp2_with fail
            rw [show (((((((((wr.setCell ⟨w.heap.size, 0, none⟩ (.int .i64 0)).setCell ⟨w.heap.size, 1, none⟩ (.int .u64 0)).setCell ⟨w.heap.size, 2, none⟩ (.int .i64 0)).setCell ⟨w.heap.size, 3, none⟩ (.int .i64 0)).setCell ⟨w.heap.size, 4, none⟩ (.int .i64 0)).setCell ⟨w.heap.size, 5, none⟩ (.int .i64 0)).setCell ⟨w.heap.size, 6, none⟩ (.int .i64 0)).setCell ⟨w.heap.size, 7, none⟩ (.string ⟨#[]⟩)).setCell ⟨w.heap.size, 8, none⟩ (.slice none 0 0)).setCell ⟨w.heap.size, 9, none⟩ (.slice none 0 0) = scrSet wr w.heap.size cfg0 (.slice none 0 0) (.slice none 0 0) from rfl]
            exact err19 rfl rfl HP.out HL.out.2 HNO.out
          case false =>
            have HG3 := Lib.hid (pick_step HGS.out (fun h => HTN.out (by omega)))
            have HPd := Lib.hid (HP.out.drew)
            have HNX := Lib.hid (numR1 (w.heap.size + 1) r5 false wr.drew HPd.out.box HB.out.1 HB.out.2)
            have hv := rv_bd HB.out.1 1
            rw [pow1] at hv
            have HB2 := Lib.hid (And.intro (rd_BL HB.out.1 1) (Nat.le_trans (rd_len r5 1) HB.out.2))
            unfold RNum at HNX
            generalize rv r5 1 = x at *
            generalize rd r5 1 = r6 at *
            generalize rx r5 1 false = b6 at *
            have hwx : IntKind.i64.wrap x = x := IntWalk.i64_in _ (by omega)
            clear hv
            have n9 := HP.out.rr.bld.c9
            obtain ⟨A9, c9, rfl⟩ := own_slice HP.out.rr.bld.picks
            generalize hnk : ks.length = nk at *
            have HNK := Lib.hid hnk
            clear hnk
            have hnk2 : nk ≤ 65536 := by have := HKL.out; omega
            have hB : w.heap.size ≤ wr.heap.size := by have := HP.out.rr.lt2; omega
            obtain ⟨i0, hi, hz0, hz1, hz2⟩ := info_parts int_info
            go_wp2_with fail
            go_region_law (first
              | (go_simp; go_at_call 46; refine HNX.out.mono ?_; rintro e w10 ⟨rfl, hb, hg⟩; (have HP1 := Lib.hid (HPd.out.next hb hg)); (have m9 := HP1.out.rr.bld.c9); (have HO1 : Hid (w10.ownsRow w.heap.size 3 1 (.slice A9 nk c9) nk (ks.map (Value.int .i64))) := by have := HP1.out.rr.bld.picks; rw [HNK.out] at this; exact this); (have m9a : (w10.alloc (Obj.cells #[Value.int IntKind.i64 x] 3)).cell? ⟨w.heap.size + 1 + 1, 9, none⟩ = some (.slice A9 nk c9) := (HP1.out.alloc _).rr.bld.c9); (have hgz : wr.heap.size ≤ w10.heap.size := hg.size); clear hb hg)
              | (refine step_append_lies _ rfl (.tmp 115) (.tmp 119) 26 rfl w.heap.size 3 i0 (.int .i64 0) 1 8 Try.underlying26 hi hz0 hz1 hz2 rfl (by decide) (.slice A9 nk c9) nk (ks.map (Value.int .i64)) (by simp [Act.eval]) (HO1.out.alloc _) _ 1 1 [.int .i64 x] (by simp [Act.eval]) rfl (news_one' _ _ _) (one_one _) (by omega) (by unfold maxLen; omega) (by omega) (by simp; omega) _ rfl ?_; intro g cap w11 hown hgrow _ _; (obtain ⟨q1, q2, q3⟩ := pick_pushedQ HP1.out HNK.out hown hgrow); (have HA := Lib.hid q3); clear hown hgrow q3))
            all_goals
              go_wp2_with fail
              go_roundw
              case rel => exact ⟨j + 1, b6, by omega, by go_num, _, _, _, HA.out, HB2.out.1, HB2.out.2, HG3.out, by rw [List.length_append, HNK.out, HKJ.out]; rfl⟩
              case measure => simp [intOf]; omega
        · obtain rfl : j = n := by omega
          have HF : Hid (P ∨ (b = false ∧ dScr l = some (⟨cf, ps, ks⟩, r5))) := by
            rcases HGS.out with h | ⟨h, h1, h2, h3⟩
            · exact .inl h
            rcases HG2.out with g | ⟨_, g⟩
            · exact .inl g
            refine .inr ⟨h, ?_⟩
            rw [g, h1, h2]; unfold dTake; rw [if_pos h3]; rfl
          clear HGS HTN HG2
          cases b
          case true =>
            have n1 := HP.out.bad
            have ns := HP.out.rr.str.cell
            have HNO : Hid (¬ ∃ s, ScrOk s ∧ ScrTy s ∧ encScr s = l) := by
              rcases HF.out with h | ⟨h, _⟩
              · rw [← HPP.out] at h
                rintro ⟨s, h1, h2, h3⟩
                have := ((dec_iff l HL.out.1 s).2 ⟨h1, h2, h3⟩).1
                rw [h] at this; cases this
              · cases h
            have hres := HP.out.rr.res
            obtain ⟨e0, e1, e2, e3, e4, e5, e6, e7, e8, e9⟩ := box_cell (c := cfg0) (p := .slice none 0 0) (k := .slice none 0 0) hres
            dsimp only [cfg0] at e0 e1 e2 e3 e4 e5 e6 e7
            have hzz : ElemT wr w.heap.size 28 := ⟨_, hres⟩
            have z0 := hzz.frozen 0
            have z1 := hzz.frozen 1
            have z2 := hzz.frozen 2
            have z3 := hzz.frozen 3
            have z4 := hzz.frozen 4
            have z5 := hzz.frozen 5
            have z6 := hzz.frozen 6
            have z7 := hzz.frozen 7
            have z8 := hzz.frozen 8
            have z9 := hzz.frozen 9
            clear hres hzz
            go_wp2_with fail
            rw [show (((((((((wr.setCell ⟨w.heap.size, 0, none⟩ (.int .i64 0)).setCell ⟨w.heap.size, 1, none⟩ (.int .u64 0)).setCell ⟨w.heap.size, 2, none⟩ (.int .i64 0)).setCell ⟨w.heap.size, 3, none⟩ (.int .i64 0)).setCell ⟨w.heap.size, 4, none⟩ (.int .i64 0)).setCell ⟨w.heap.size, 5, none⟩ (.int .i64 0)).setCell ⟨w.heap.size, 6, none⟩ (.int .i64 0)).setCell ⟨w.heap.size, 7, none⟩ (.string ⟨#[]⟩)).setCell ⟨w.heap.size, 8, none⟩ (.slice none 0 0)).setCell ⟨w.heap.size, 9, none⟩ (.slice none 0 0) = scrSet wr w.heap.size cfg0 (.slice none 0 0) (.slice none 0 0) from rfl]
            exact err19 rfl rfl HP.out HL.out.2 HNO.out
          case false =>
            have n1 := HP.out.bad
            have ns := HP.out.rr.str.cell
            have HF2 : Hid (dScr l = none ∨ dScr l = some (⟨cf, ps, ks⟩, r5)) := by
              rcases HF.out with h | ⟨_, h⟩
              · rw [← HPP.out] at h; exact .inl h
              · exact .inr h
            by_cases hr : r5 = []
            case neg =>
              have hbr : (bs r5).toList.isEmpty = false := by
                revert hr
                cases r5 with
                | nil => intro h; exact absurd rfl h
                | cons x y => intro _; simp [bs]
              have HNO := Lib.hid (dec_not HL.out.1 HF2.out (.inl hr))
              have hres := HP.out.rr.res
              obtain ⟨e0, e1, e2, e3, e4, e5, e6, e7, e8, e9⟩ := box_cell (c := cfg0) (p := .slice none 0 0) (k := .slice none 0 0) hres
              dsimp only [cfg0] at e0 e1 e2 e3 e4 e5 e6 e7
              have hzz : ElemT wr w.heap.size 28 := ⟨_, hres⟩
              have z0 := hzz.frozen 0
              have z1 := hzz.frozen 1
              have z2 := hzz.frozen 2
              have z3 := hzz.frozen 3
              have z4 := hzz.frozen 4
              have z5 := hzz.frozen 5
              have z6 := hzz.frozen 6
              have z7 := hzz.frozen 7
              have z8 := hzz.frozen 8
              have z9 := hzz.frozen 9
              clear hres hzz
              go_wp2_with fail
              rw [show (((((((((wr.setCell ⟨w.heap.size, 0, none⟩ (.int .i64 0)).setCell ⟨w.heap.size, 1, none⟩ (.int .u64 0)).setCell ⟨w.heap.size, 2, none⟩ (.int .i64 0)).setCell ⟨w.heap.size, 3, none⟩ (.int .i64 0)).setCell ⟨w.heap.size, 4, none⟩ (.int .i64 0)).setCell ⟨w.heap.size, 5, none⟩ (.int .i64 0)).setCell ⟨w.heap.size, 6, none⟩ (.int .i64 0)).setCell ⟨w.heap.size, 7, none⟩ (.string ⟨#[]⟩)).setCell ⟨w.heap.size, 8, none⟩ (.slice none 0 0)).setCell ⟨w.heap.size, 9, none⟩ (.slice none 0 0) = scrSet wr w.heap.size cfg0 (.slice none 0 0) (.slice none 0 0) from rfl]
              exact err19 rfl rfl HP.out HL.out.2 HNO.out
            case pos =>
              subst hr
              have hbr : (bs []).toList.isEmpty = true := by decide +kernel
              obtain ⟨A8, x8, A9, x9, rfl, rfl, hP8, hK9⟩ := HP.out.form
              have HTY : Hid (ScrTy ⟨cf, ps, ks⟩) := fun p hp o ho => ((HPI.out p hp).2 o ho).1
              have HE := Lib.hid (scriptEncodeR ⟨cf, ps, ks⟩ A8 A9 x8 x9 wr ⟨Nat.le_trans HTX.out (by decide), by have := HPL.out; show ps.length ≤ _; omega, fun p hp => Nat.le_trans (HPI.out p hp).1 (by decide), by have := HKL.out; show ks.length ≤ _; omega, fun p hp o ho => ((HPI.out p hp).2 o ho).2.1⟩ (fun p hp o ho => ((HPI.out p hp).2 o ho).2.2) hP8 hK9 HTY.out)
              clear hP8 hK9
              have q0 := HP.out.rr.bld.c0
              have q1 := HP.out.rr.bld.c1
              have q2 := HP.out.rr.bld.c2
              have q3 := HP.out.rr.bld.c3
              have q4 := HP.out.rr.bld.c4
              have q5 := HP.out.rr.bld.c5
              have q6 := HP.out.rr.bld.c6
              have q7 := HP.out.rr.bld.c7
              have q8 := HP.out.rr.bld.c8
              have q9 := HP.out.rr.bld.c9
              have hclt := HP.out.rr.lt2
              go_wp2_with fail
              refine HE.out.mono ?_
              rintro e w27 ⟨rfl, hb⟩
              have HQ := Lib.hid (HP.out.below hb)
              clear hb HE q0 q1 q2 q3 q4 q5 q6 q7 q8 q9 n1 ns
              have hres := HQ.out.rr.res
              obtain ⟨e0, e1, e2, e3, e4, e5, e6, e7, e8, e9⟩ := box_cell (c := cfg0) (p := .slice none 0 0) (k := .slice none 0 0) hres
              dsimp only [cfg0] at e0 e1 e2 e3 e4 e5 e6 e7
              have hzz : ElemT w27 w.heap.size 28 := ⟨_, hres⟩
              have z0 := hzz.frozen 0
              have z1 := hzz.frozen 1
              have z2 := hzz.frozen 2
              have z3 := hzz.frozen 3
              have z4 := hzz.frozen 4
              have z5 := hzz.frozen 5
              have z6 := hzz.frozen 6
              have z7 := hzz.frozen 7
              have z8 := hzz.frozen 8
              have z9 := hzz.frozen 9
              clear hres hzz
              by_cases hk : chkScr ⟨cf, ps, ks⟩ = 0
              case neg =>
                have HNO := Lib.hid (dec_not HL.out.1 HF2.out (.inr (.inl hk)))
                rw [if_neg hk]
                generalize chkScr ⟨cf, ps, ks⟩ = kk at *
                have hkk : (kk != 0) = true := by simpa using hk
                clear hk
                go_wp2_with fail
                rw [show (((((((((w27.setCell ⟨w.heap.size, 0, none⟩ (.int .i64 0)).setCell ⟨w.heap.size, 1, none⟩ (.int .u64 0)).setCell ⟨w.heap.size, 2, none⟩ (.int .i64 0)).setCell ⟨w.heap.size, 3, none⟩ (.int .i64 0)).setCell ⟨w.heap.size, 4, none⟩ (.int .i64 0)).setCell ⟨w.heap.size, 5, none⟩ (.int .i64 0)).setCell ⟨w.heap.size, 6, none⟩ (.int .i64 0)).setCell ⟨w.heap.size, 7, none⟩ (.string ⟨#[]⟩)).setCell ⟨w.heap.size, 8, none⟩ (.slice none 0 0)).setCell ⟨w.heap.size, 9, none⟩ (.slice none 0 0) = scrSet w27 w.heap.size cfg0 (.slice none 0 0) (.slice none 0 0) from rfl]
                exact err19 rfl rfl HQ.out HL.out.2 HNO.out
              case pos =>
                rw [if_pos hk, hk]
                have HO := Lib.hid ((chk_iff _).1 hk)
                clear hk
                by_cases he : encScr ⟨cf, ps, ks⟩ = l
                case neg =>
                  have HNO := Lib.hid (dec_not HL.out.1 HF2.out (.inr (.inr he)))
                  have hne : ((bs (encScr ⟨cf, ps, ks⟩)).toList == (bs l).toList) = false := by
                    rw [beq_eq_false_iff_ne]
                    exact fun h => he ((bs_eq (encScr_BL _) HL.out.1).1 (bytes_ext.1 h))
                  clear he
                  generalize bs (encScr ⟨cf, ps, ks⟩) = te at *
                  go_wp2_with fail
                  rw [show (((((((((w27.setCell ⟨w.heap.size, 0, none⟩ (.int .i64 0)).setCell ⟨w.heap.size, 1, none⟩ (.int .u64 0)).setCell ⟨w.heap.size, 2, none⟩ (.int .i64 0)).setCell ⟨w.heap.size, 3, none⟩ (.int .i64 0)).setCell ⟨w.heap.size, 4, none⟩ (.int .i64 0)).setCell ⟨w.heap.size, 5, none⟩ (.int .i64 0)).setCell ⟨w.heap.size, 6, none⟩ (.int .i64 0)).setCell ⟨w.heap.size, 7, none⟩ (.string ⟨#[]⟩)).setCell ⟨w.heap.size, 8, none⟩ (.slice none 0 0)).setCell ⟨w.heap.size, 9, none⟩ (.slice none 0 0) = scrSet w27 w.heap.size cfg0 (.slice none 0 0) (.slice none 0 0) from rfl]
                  exact err19 rfl rfl HQ.out HL.out.2 HNO.out
                case pos =>
                  rw [he]
                  have hne : ((bs l).toList == (bs l).toList) = true := by simp
                  have HE2 := Lib.hid he
                  clear he
                  have q0 := HQ.out.rr.bld.c0
                  have q1 := HQ.out.rr.bld.c1
                  have q2 := HQ.out.rr.bld.c2
                  have q3 := HQ.out.rr.bld.c3
                  have q4 := HQ.out.rr.bld.c4
                  have q5 := HQ.out.rr.bld.c5
                  have q6 := HQ.out.rr.bld.c6
                  have q7 := HQ.out.rr.bld.c7
                  have q8 := HQ.out.rr.bld.c8
                  have q9 := HQ.out.rr.bld.c9
                  go_wp2_with fail
                  rw [show (((((((((w27.setCell ⟨w.heap.size, 0, none⟩ (.int .i64 cf.slots)).setCell ⟨w.heap.size, 1, none⟩ (.int .u64 cf.gens)).setCell ⟨w.heap.size, 2, none⟩ (.int .i64 cf.clients)).setCell ⟨w.heap.size, 3, none⟩ (.int .i64 cf.readers)).setCell ⟨w.heap.size, 4, none⟩ (.int .i64 cf.queue)).setCell ⟨w.heap.size, 5, none⟩ (.int .i64 cf.batch)).setCell ⟨w.heap.size, 6, none⟩ (.int .i64 cf.feed)).setCell ⟨w.heap.size, 7, none⟩ (.string cf.text)).setCell ⟨w.heap.size, 8, none⟩ (.slice A8 ps.length x8)).setCell ⟨w.heap.size, 9, none⟩ (.slice A9 ks.length x9) = scrSet w27 w.heap.size cf (.slice A8 ps.length x8) (.slice A9 ks.length x9) from rfl]
                  exact ret19 rfl rfl HQ.out HO.out HTY.out HE2.out
end Go.Proofs.Ytcicememljlafaa
