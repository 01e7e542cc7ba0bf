/- Merged texts: D4, D5, D6, D7. -/
import Derived.Test.YtbjadgggpkbjmaaGreatGi
import Derived.Test.YtbjadgggpkbjmaaGreatGd
import Derived.Recover
import Derived.Defers
import Derived.Test.YtbjadgggpkbjmaaGreatGg
namespace Go.Proofs.YtbjadgggpkbjmaaGreat
open Go.RowKit
open Runes (bs bt)

def ScrDec (rb : Nat) (l : List Int) (W : World) (e : Ending) (W' : World) : Prop :=
  match dScr l with
  | some (s, r) => ∃ lim v8 v9, e = .returned (scrVal s.cfg v8 v9) ∧ Bld W' W.heap.size (W.heap.size + 1) lim s.cfg v8 v9 s.progs s.picks ∧ StrBox W' rb 73 (bs r) ∧ W.grownBy W' (some rb)
  | none => e = ErrForm ∧ W.grownBy W' (some rb)
theorem scrDec_no {rb : Nat} {l : List Int} {W W' : World} (h : dScr l = none) (hg : W.grownBy W' (some rb)) : ScrDec rb l W ErrForm W' := by unfold ScrDec; rw [h]; exact ⟨rfl, hg⟩
theorem scrDec_yes {rb : Nat} {l r : List Int} {s : ScrV} {W W' : World} {v8 v9 : Value} (h : dScr l = some (s, r)) (hv : ∃ lim, Bld W' W.heap.size (W.heap.size + 1) lim s.cfg v8 v9 s.progs s.picks) (hs : StrBox W' rb 73 (bs r)) (hg : W.grownBy W' (some rb)) : ScrDec rb l W (.returned (scrVal s.cfg v8 v9)) W' := by unfold ScrDec; rw [h]; obtain ⟨lim, hv⟩ := hv; exact ⟨lim, v8, v9, rfl, hv, hs, hg⟩
theorem dScr_cfg_none {l : List Int} (h : dCfg l = none) : dScr l = none := by unfold dScr; rw [h]; rfl
theorem dNum_yes {l : List Int} {n : Nat} (h : n ≤ l.length) : dNum l n = some (val (l.take n), l.drop n) := by unfold dNum; rw [if_pos h]
theorem dNum_no {l : List Int} {n : Nat} (h : ¬ n ≤ l.length) : dNum l n = none := by unfold dNum; rw [if_neg h]
theorem dTake_yes {l : List Int} {n : Nat} (h : n ≤ l.length) : dTake l n = some (l.take n, l.drop n) := by unfold dTake; rw [if_pos h]
theorem dTake_no {l : List Int} {n : Nat} (h : ¬ n ≤ l.length) : dTake l n = none := by unfold dTake; rw [if_neg h]
theorem mk0 (a b y : Int) (ys : List Int) (t : ByteArray) (h : ys.length = 0) : { mkCfg a b ys t with clients := y } = mkCfg a b (ys ++ [y]) t := by match ys, h with | [], _ => rfl
theorem mk1 (a b y : Int) (ys : List Int) (t : ByteArray) (h : ys.length = 1) : { mkCfg a b ys t with readers := y } = mkCfg a b (ys ++ [y]) t := by match ys, h with | [_], _ => rfl
theorem mk2 (a b y : Int) (ys : List Int) (t : ByteArray) (h : ys.length = 2) : { mkCfg a b ys t with queue := y } = mkCfg a b (ys ++ [y]) t := by match ys, h with | [_, _], _ => rfl
theorem mk3 (a b y : Int) (ys : List Int) (t : ByteArray) (h : ys.length = 3) : { mkCfg a b ys t with batch := y } = mkCfg a b (ys ++ [y]) t := by match ys, h with | [_, _, _], _ => rfl
theorem mk4 (a b y : Int) (ys : List Int) (t : ByteArray) (h : ys.length = 4) : { mkCfg a b ys t with feed := y } = mkCfg a b (ys ++ [y]) t := by match ys, h with | [_, _, _, _], _ => rfl
abbrev ptrObj (X : Nat) : Obj := .cells #[.pointer (some ⟨X, 2, none⟩), .pointer (some ⟨X, 3, none⟩), .pointer (some ⟨X, 4, none⟩), .pointer (some ⟨X, 5, none⟩), .pointer (some ⟨X, 6, none⟩)] 89
theorem ptr_cell {w : World} {p X : Nat} (h : w.heap[p]? = some (ptrObj X)) (q : Nat) (hq : q < 5) : w.cell? ⟨p, q, none⟩ = some (.pointer (some ⟨X, q + 2, none⟩)) := by
  unfold World.cell?; rw [h]
  match q, hq with
  | 0, _ | 1, _ | 2, _ | 3, _ | 4, _ => rfl
  | q + 5, hq => exact absurd hq (by omega)
theorem dFive_bd (n : Nat) : ∀ {l ys r : List Int}, BL l → dFive n l = some (ys, r) → (∀ y ∈ ys, 0 ≤ y ∧ y < 256) ∧ BL r := by
  induction n with
  | zero =>
    intro l ys r hl h
    simp only [dFive, Option.some.injEq, Prod.mk.injEq] at h
    obtain ⟨rfl, rfl⟩ := h
    exact ⟨fun y hy => (by cases hy), hl⟩
  | succ n ih =>
    intro l ys r hl h
    simp only [dFive, Option.bind_eq_some_iff, Option.map_eq_some_iff] at h
    obtain ⟨⟨y, r1⟩, h1, ⟨z, r2⟩, h2, h3⟩ := h
    simp only [Prod.mk.injEq] at h3
    obtain ⟨rfl, rfl⟩ := h3
    obtain ⟨b1, b2⟩ := ih hl h1
    obtain ⟨_, z0, z1, b3⟩ := dNum_some b2 h2
    refine ⟨fun q hq => ?_, b3⟩
    rcases List.mem_append.1 hq with hq | hq
    · exact b1 q hq
    · simp at hq; subst hq; rw [pow1] at z1; exact ⟨z0, z1⟩
theorem news_i64 (W : World) (y : Int) : ∀ j u, ([Value.int .i64 y] : List Value)[j]? = some u → (W.alloc (.cells #[.int .i64 y] 3)).drew.cell? ((⟨W.heap.size, 0, none⟩ : Addr).add j) = some u := news_val W _ 3
theorem dFive_succ (n : Nat) (l ys r : List Int) (h : dFive n l = some (ys, r)) : dFive (n + 1) l = (dNum r 1).map fun z => (ys ++ [z.1], z.2) := by simp only [dFive, h, Option.bind_some]
/-- The numbers of one byte, read so far, are bytes. -/
def B255 (ys : List Int) : Prop := ∀ y ∈ ys, 0 ≤ y ∧ y < 256
set_option maxHeartbeats 0 in
set_option maxRecDepth 100000 in
theorem readScrFn (rb : Nat) (l : List Int) (W : World) (h : StrBox W rb 73 (bs l)) (hl : BL l) (hm : l.length ≤ 65536) :
    Calls Tryz.prog 23 #[.pointer (some ⟨rb, 0, none⟩)] W (ScrDec rb l W) := by
  have HS := Lib.hid (scst_start h)
  have HC0 := Lib.hid (dCfg_eq l)
  have HB := Lib.hid (And.intro hl hm)
  clear h hl hm
  go_enter Tryz.func23, Tryz.ntmps23
  go_upto_region 3 with fail
  generalize (W.alloc zeroScr).alloc zeroScr = W1 at *
  by_cases h2 : 2 ≤ l.length
  case neg =>
    have HN := Lib.hid (num2_no rb l W1 HS.out.str (by omega))
    have HE : Hid (dScr l = none) := by refine dScr_cfg_none ?_; rw [HC0.out, dNum_no h2]; rfl
    go_wp2_with fail
    refine HN.out.mono ?_
    rintro e w1 ⟨rfl, rfl⟩
    go_wp2_with fail
    exact ⟨rfl, scrDec_no HE.out HS.out.gr⟩
  have HN := Lib.hid (num2_yes rb l W1 HS.out.str HB.out.1 h2 HB.out.2)
  have HC1 : Hid (dCfg l = (dNum (l.drop 2) 4).bind fun b => (dFive 5 b.2).bind fun y => (dText y.2).map fun t => (mkCfg (val (l.take 2)) b.1 y.1 t.1, t.2)) := by show _ = _; rw [HC0.out, dNum_yes h2]; rfl
  have HB1 : Hid (BL (l.drop 2) ∧ (l.drop 2).length ≤ 65536) := ⟨HB.out.1.drop 2, by have := HB.out.2; simp; omega⟩
  clear HC0 HB h2
  generalize val (l.take 2) = a at *
  generalize l.drop 2 = l1 at *
  go_wp2_with fail
  refine HN.out.mono ?_
  rintro e w1 ⟨rfl, hs, hg⟩
  have HS := Lib.hid (HS.out.next hs hg)
  clear hs hg HN
  have n0 := HS.out.bld.c0
  have fr := HS.out.fr 0
  have HSa := Lib.hid (HS.out.put 0 _ (HS.out.bld.set0 a))
  go_upto_region 4 with fail
  clear n0 fr HS
  generalize hWa : w1.setCell ⟨W.heap.size + 1, 0, none⟩ (.int .i64 a) = Wa at *
  clear hWa
  by_cases h4 : 4 ≤ l1.length
  case neg =>
    have HN := Lib.hid (num4_no rb l1 Wa HSa.out.str (by omega))
    have HE : Hid (dScr l = none) := by refine dScr_cfg_none ?_; rw [HC1.out, dNum_no h4]; rfl
    go_wp2_with fail
    refine HN.out.mono ?_
    rintro e w1 ⟨rfl, rfl⟩
    go_wp2_with fail
    exact ⟨rfl, scrDec_no HE.out HSa.out.gr⟩
  have HN := Lib.hid (num4_yes rb l1 Wa HSa.out.str HB1.out.1 h4 HB1.out.2)
  have HC2 : Hid (dCfg l = (dFive 5 (l1.drop 4)).bind fun y => (dText y.2).map fun t => (mkCfg a (val (l1.take 4)) y.1 t.1, t.2)) := by show _ = _; rw [HC1.out, dNum_yes h4]; rfl
  have HB2 : Hid (BL (l1.drop 4) ∧ (l1.drop 4).length ≤ 65536) := ⟨HB1.out.1.drop 4, by have := HB1.out.2; simp; omega⟩
  have hvb := val_bd _ (HB1.out.1.take 4)
  have hvl : (l1.take 4).length = 4 := by simp; omega
  rw [hvl, pow4] at hvb
  have HBL2 : Hid (BL (l1.drop 4)) := HB1.out.1.drop 4
  clear HC1 HB1 h4 hvl
  generalize val (l1.take 4) = b at *
  generalize l1.drop 4 = l2 at *
  have hub := u64w b hvb.1 (by omega)
  go_wp2_with fail
  refine HN.out.mono ?_
  rintro e w2 ⟨rfl, hs, hg⟩
  have HS := Lib.hid (HSa.out.next hs hg)
  clear hs hg HN HSa
  have n0 := HS.out.bld.c1
  have fr := HS.out.fr 1
  have HSa : Hid (ScSt W (w2.setCell ⟨W.heap.size + 1, 1, none⟩ (.int .u64 b)) rb l2 W.heap.size (mkCfg a b [] ⟨#[]⟩) (.slice none 0 0) (.slice none 0 0) [] []) := HS.out.put 1 _ (HS.out.bld.set1 b)
  go_upto_region 5 with fail
  clear n0 fr HS
  generalize hWa : w2.setCell ⟨W.heap.size + 1, 1, none⟩ (.int .u64 b) = Wb at *
  clear hWa
  go_region_law (fail)
  simp [Act.put]
  go_wp2_with fail
  have HS : Hid (ScSt W (Wb.alloc (ptrObj (W.heap.size + 1))).drew rb l2 W.heap.size (mkCfg a b [] ⟨#[]⟩) (.slice none 0 0) (.slice none 0 0) [] []) := (HSa.out.alloc _).drewN 1
  have HPB : Hid ((Wb.alloc (ptrObj (W.heap.size + 1))).drew.heap[Wb.heap.size]? = some (ptrObj (W.heap.size + 1))) := heap_alloc_new _ _
  have hpb := HSa.out.lt
  clear HSa
  generalize (Wb.alloc (ptrObj (W.heap.size + 1))).drew = Wc at *
  generalize Wb.heap.size = pb at *
  go_loopw [39] (fun i wr => ∃ (q : Nat) (ys r : List Int), q ≤ 5 ∧ i = .int .i64 q ∧ Hid (dFive q l2 = some (ys, r)) ∧ Hid (ScSt W wr rb r W.heap.size (mkCfg a b ys ⟨#[]⟩) (.slice none 0 0) (.slice none 0 0) [] []) ∧ Hid (wr.heap[pb]? = some (ptrObj (W.heap.size + 1))) ∧ Hid (BL r ∧ r.length ≤ 65536)) (fun i _ => 5 - (intOf i).toNat)
  case atStart => exact ⟨0, _, _, by omega, rfl, rfl, HS.out, HPB.out, HB2.out⟩
  case round =>
    obtain ⟨q, ys, r, hq, rfl, HY, HQ, HF, HB⟩ := hrel
    clear HS HPB
    by_cases hq5 : q < 5
    · have hqi : (q : Int) < 5 := by omega
      have hcp := ptr_cell HF.out q hq5
      have HDS := Lib.hid (dFive_succ q l2 ys r HY.out)
      have hlen := dFive_len _ HY.out
      by_cases h1 : 1 ≤ r.length
      case neg =>
        have HN := Lib.hid (num1_no rb r wr HQ.out.str (by omega))
        have HE : Hid (dScr l = none) := by
          refine dScr_cfg_none ?_
          have : dFive (q + 1) l2 = none := by rw [HDS.out, dNum_no h1]; rfl
          rw [HC2.out, dFive_none (by omega : q + 1 ≤ 5) this]; rfl
        go_wp2_with fail
        refine HN.out.mono ?_
        rintro e w3 ⟨rfl, rfl⟩
        go_wp2_with fail
        exact ⟨rfl, scrDec_no HE.out HQ.out.gr⟩
      have HN := Lib.hid (num1_yes rb r wr HQ.out.str HB.out.1 h1 HB.out.2)
      have HY2 : Hid (dFive (q + 1) l2 = some (ys ++ [val (r.take 1)], r.drop 1)) := by show _ = _; rw [HDS.out, dNum_yes h1]; rfl
      have HB2 : Hid (BL (r.drop 1) ∧ (r.drop 1).length ≤ 65536) := ⟨HB.out.1.drop 1, by have := HB.out.2; simp; omega⟩
      clear HDS h1
      generalize val (r.take 1) = y at *
      generalize r.drop 1 = r2 at *
      go_wp2_with fail
      refine HN.out.mono ?_
      rintro e w3 ⟨rfl, hs, hg⟩
      have HS2 := Lib.hid (HQ.out.next hs hg)
      have HF2 := Lib.hid ((hg.block pb (heap_lt HF.out) (by have := HQ.out.hrb; intro e; injection e; omega)).trans HF.out)
      clear hs hg HN HQ HF hcp
      have HLE := Lib.hid hlen
      have hq4 : q = 0 ∨ q = 1 ∨ q = 2 ∨ q = 3 ∨ q = 4 := by omega
      clear hlen
      rcases hq4 with rfl | rfl | rfl | rfl | rfl
      · have n0 := HS2.out.bld.c2
        have fr := HS2.out.fr 2
        have HS3 : Hid (ScSt W (w3.setCell ⟨W.heap.size + 1, 2, none⟩ (.int .i64 y)) rb r2 W.heap.size (mkCfg a b (ys ++ [y]) ⟨#[]⟩) (.slice none 0 0) (.slice none 0 0) [] []) := by
          have := HS2.out.put 2 _ (HS2.out.bld.set2 y)
          rw [mk0 a b y ys ⟨#[]⟩ HLE.out] at this
          exact this
        have HF3 : Hid ((w3.setCell ⟨W.heap.size + 1, 2, none⟩ (.int .i64 y)).heap[pb]? = some (ptrObj (W.heap.size + 1))) := (Below.heap_setCell _ _ _ _ (by show pb ≠ W.heap.size + 1; omega)).trans HF2.out
        clear HS2 HF2
        go_wp2_with fail
        go_roundw
        case rel => exact ⟨1, _, _, by omega, by go_num, HY2.out, HS3.out, HF3.out, HB2.out⟩
        case measure => simp [intOf]
      · have n0 := HS2.out.bld.c3
        have fr := HS2.out.fr 3
        have HS3 : Hid (ScSt W (w3.setCell ⟨W.heap.size + 1, 3, none⟩ (.int .i64 y)) rb r2 W.heap.size (mkCfg a b (ys ++ [y]) ⟨#[]⟩) (.slice none 0 0) (.slice none 0 0) [] []) := by
          have := HS2.out.put 3 _ (HS2.out.bld.set3 y)
          rw [mk1 a b y ys ⟨#[]⟩ HLE.out] at this
          exact this
        have HF3 : Hid ((w3.setCell ⟨W.heap.size + 1, 3, none⟩ (.int .i64 y)).heap[pb]? = some (ptrObj (W.heap.size + 1))) := (Below.heap_setCell _ _ _ _ (by show pb ≠ W.heap.size + 1; omega)).trans HF2.out
        clear HS2 HF2
        go_wp2_with fail
        go_roundw
        case rel => exact ⟨2, _, _, by omega, by go_num, HY2.out, HS3.out, HF3.out, HB2.out⟩
        case measure => simp [intOf]
      · have n0 := HS2.out.bld.c4
        have fr := HS2.out.fr 4
        have HS3 : Hid (ScSt W (w3.setCell ⟨W.heap.size + 1, 4, none⟩ (.int .i64 y)) rb r2 W.heap.size (mkCfg a b (ys ++ [y]) ⟨#[]⟩) (.slice none 0 0) (.slice none 0 0) [] []) := by
          have := HS2.out.put 4 _ (HS2.out.bld.set4 y)
          rw [mk2 a b y ys ⟨#[]⟩ HLE.out] at this
          exact this
        have HF3 : Hid ((w3.setCell ⟨W.heap.size + 1, 4, none⟩ (.int .i64 y)).heap[pb]? = some (ptrObj (W.heap.size + 1))) := (Below.heap_setCell _ _ _ _ (by show pb ≠ W.heap.size + 1; omega)).trans HF2.out
        clear HS2 HF2
        go_wp2_with fail
        go_roundw
        case rel => exact ⟨3, _, _, by omega, by go_num, HY2.out, HS3.out, HF3.out, HB2.out⟩
        case measure => simp [intOf]
      · have n0 := HS2.out.bld.c5
        have fr := HS2.out.fr 5
        have HS3 : Hid (ScSt W (w3.setCell ⟨W.heap.size + 1, 5, none⟩ (.int .i64 y)) rb r2 W.heap.size (mkCfg a b (ys ++ [y]) ⟨#[]⟩) (.slice none 0 0) (.slice none 0 0) [] []) := by
          have := HS2.out.put 5 _ (HS2.out.bld.set5 y)
          rw [mk3 a b y ys ⟨#[]⟩ HLE.out] at this
          exact this
        have HF3 : Hid ((w3.setCell ⟨W.heap.size + 1, 5, none⟩ (.int .i64 y)).heap[pb]? = some (ptrObj (W.heap.size + 1))) := (Below.heap_setCell _ _ _ _ (by show pb ≠ W.heap.size + 1; omega)).trans HF2.out
        clear HS2 HF2
        go_wp2_with fail
        go_roundw
        case rel => exact ⟨4, _, _, by omega, by go_num, HY2.out, HS3.out, HF3.out, HB2.out⟩
        case measure => simp [intOf]
      · have n0 := HS2.out.bld.c6
        have fr := HS2.out.fr 6
        have HS3 : Hid (ScSt W (w3.setCell ⟨W.heap.size + 1, 6, none⟩ (.int .i64 y)) rb r2 W.heap.size (mkCfg a b (ys ++ [y]) ⟨#[]⟩) (.slice none 0 0) (.slice none 0 0) [] []) := by
          have := HS2.out.put 6 _ (HS2.out.bld.set6 y)
          rw [mk4 a b y ys ⟨#[]⟩ HLE.out] at this
          exact this
        have HF3 : Hid ((w3.setCell ⟨W.heap.size + 1, 6, none⟩ (.int .i64 y)).heap[pb]? = some (ptrObj (W.heap.size + 1))) := (Below.heap_setCell _ _ _ _ (by show pb ≠ W.heap.size + 1; omega)).trans HF2.out
        clear HS2 HF2
        go_wp2_with fail
        go_roundw
        case rel => exact ⟨5, _, _, by omega, by go_num, HY2.out, HS3.out, HF3.out, HB2.out⟩
        case measure => simp [intOf]
    · obtain rfl : q = 5 := by omega
      have HC3 : Hid (dCfg l = (dText r).map fun t => (mkCfg a b ys t.1, t.2)) := by show _ = _; rw [HC2.out, HY.out]; rfl
      have HYB : Hid (0 ≤ ys.getD 0 0 ∧ ys.getD 0 0 < 256) := (dFive_bd 5 HBL2.out HY.out).1 _ (getD_mem 0 ys 0 (by rw [dFive_len 5 HY.out]; omega))
      clear HC2 HY HB2 HF HBL2
      by_cases h2 : 2 ≤ r.length
      case neg =>
        have HN := Lib.hid (num2_no rb r wr HQ.out.str (by omega))
        have HE : Hid (dScr l = none) := by refine dScr_cfg_none ?_; rw [HC3.out]; unfold dText; rw [dNum_no h2]; rfl
        go_wp2_with fail
        refine HN.out.mono ?_
        rintro e w3 ⟨rfl, rfl⟩
        go_wp2_with fail
        exact ⟨rfl, scrDec_no HE.out HQ.out.gr⟩
      have HN := Lib.hid (num2_yes rb r wr HQ.out.str HB.out.1 h2 HB.out.2)
      have hvb := val_bd _ (HB.out.1.take 2)
      have hvl : (r.take 2).length = 2 := by simp; omega
      rw [hvl, pow2] at hvb
      have HC4 : Hid (dCfg l = ((dTake (r.drop 2) (val (r.take 2)).toNat).map fun z => (bs z.1, z.2)).map fun t => (mkCfg a b ys t.1, t.2)) := by show _ = _; rw [HC3.out]; unfold dText; rw [dNum_yes h2]; rfl
      have HB2 : Hid (BL (r.drop 2) ∧ (r.drop 2).length ≤ 65536) := ⟨HB.out.1.drop 2, by have := HB.out.2; simp; omega⟩
      obtain ⟨n, hy⟩ : ∃ n : Nat, val (r.take 2) = n := ⟨(val (r.take 2)).toNat, by omega⟩
      rw [hy] at HN HC4 hvb
      clear hy HC3 h2 hvl
      generalize r.drop 2 = r2 at *
      have hn1 : n ≤ 65536 := by omega
      go_wp2_with fail
      refine HN.out.mono ?_
      rintro e w3 ⟨rfl, hs, hg⟩
      have HS2 := Lib.hid (HQ.out.next hs hg)
      clear hs hg HN HQ HB
      by_cases h3 : n ≤ r2.length
      case neg =>
        have HN := Lib.hid (take_no n rb r2 w3 HS2.out.str (by omega) hn1)
        have HE : Hid (dScr l = none) := by refine dScr_cfg_none ?_; rw [HC4.out, dTake_no (by simpa using h3)]; rfl
        go_wp2_with fail
        refine HN.out.mono ?_
        rintro e w4 ⟨rfl, rfl⟩
        go_wp2_with fail
        exact ⟨rfl, scrDec_no HE.out HS2.out.gr⟩
      have HN := Lib.hid (take_yes n rb r2 w3 HS2.out.str h3 HB2.out.2)
      have HC5 : Hid (dCfg l = some (mkCfg a b ys (bs (r2.take n)), r2.drop n)) := by show _ = _; rw [HC4.out, dTake_yes (by simpa using h3)]; rfl
      have HB3 : Hid (BL (r2.drop n) ∧ (r2.drop n).length ≤ 65536) := ⟨HB2.out.1.drop n, by have := HB2.out.2; simp; omega⟩
      have HCL : Hid (0 ≤ (mkCfg a b ys (bs (r2.take n))).clients ∧ (mkCfg a b ys (bs (r2.take n))).clients < 256) := HYB.out
      clear HC4 HB2 h3
      generalize bs (r2.take n) = tx at *
      generalize r2.drop n = l4 at *
      go_wp2_with fail
      refine HN.out.mono ?_
      rintro e w4 ⟨rfl, hs, hg⟩
      have HS3 := Lib.hid (HS2.out.next hs hg)
      clear hs hg HN HS2
      have n0 := HS3.out.bld.c7
      have fr := HS3.out.fr 7
      have HS4 : Hid (ScSt W (w4.setCell ⟨W.heap.size + 1, 7, none⟩ (.string tx)) rb l4 W.heap.size (mkCfg a b ys tx) (.slice none 0 0) (.slice none 0 0) [] []) := HS3.out.put 7 _ (HS3.out.bld.set7 tx)
      generalize hcf : mkCfg a b ys tx = cf at *
      clear hcf
      go_upto_region 11 with fail
      clear n0 fr HS3
      generalize w4.setCell ⟨W.heap.size + 1, 7, none⟩ (.string tx) = Wd at *
      have n2 := HS4.out.bld.c2
      have hcl0 := HCL.out.1
      have hcl1 := HCL.out.2
      obtain ⟨cl, hcl⟩ : ∃ cl : Nat, cf.clients = cl := ⟨cf.clients.toNat, by omega⟩
      rw [hcl] at n2 hcl0 hcl1
      have HCC := Lib.hid hcl
      clear hcl HCL
      have HD0 : Hid (dScr l = (dProgs cl l4).bind fun p => (dPicks p.2).map fun k => (⟨cf, p.1, k.1⟩, k.2)) := by
        show _ = _; unfold dScr; rw [HC5.out]; simp only [Option.bind_some]; rw [HCC.out, Int.toNat_natCast]
      clear HC5
      have HBL4 : Hid (BL l4) := HB3.out.1
      go_wp2_with fail
      clear n2
      go_loopw [59] (fun i wr => ∃ k : Nat, k ≤ cl ∧ i = .int .i64 k ∧ Hid (∃ lim v8 ps r, lim ≤ wr.heap.size ∧ dProgs k l4 = some (ps, r) ∧ ScSt W wr rb r lim cf v8 (.slice none 0 0) ps [] ∧ BL r ∧ r.length ≤ 65536)) (fun i _ => cl - (intOf i).toNat)
      case atStart => exact ⟨0, Nat.zero_le _, rfl, W.heap.size, _, [], l4, by have := HS4.out.lt; omega, rfl, HS4.out, HB3.out.1, HB3.out.2⟩
      case round =>
        obtain ⟨k, hk, rfl, HST⟩ := hrel
        clear HS4 HB3
        obtain ⟨lim, v8, ps, r, hlim, hdp, hsc, hbl, hrl⟩ := HST.out
        have HP := Lib.hid hsc
        have HDP := Lib.hid hdp
        have HB := Lib.hid (And.intro hbl hrl)
        clear hsc hdp hbl hrl HST
        by_cases hlt : k < cl
        · have hki : (k : Int) < (cl : Int) := by omega
          have HDN : Hid (dProgs (k + 1) l4 = none → dScr l = none) := fun h => by rw [HD0.out, dProgs_none (by omega : k + 1 ≤ cl) h]; rfl
          by_cases h2 : 2 ≤ r.length
          case neg =>
            have HN := Lib.hid (num2_no rb r wr HP.out.str (by omega))
            have HE : Hid (dScr l = none) := HDN.out (by simp only [dProgs, HDP.out, Option.bind_some]; rw [dNum_no h2]; rfl)
            go_wp2_with fail
            refine HN.out.mono ?_
            rintro e w5 ⟨rfl, rfl⟩
            go_wp2_with fail
            exact ⟨rfl, scrDec_no HE.out HP.out.gr⟩
          have HN := Lib.hid (num2_yes rb r wr HP.out.str HB.out.1 h2 HB.out.2)
          have hvb := val_bd _ (HB.out.1.take 2)
          have hvl : (r.take 2).length = 2 := by simp; omega
          rw [hvl, pow2] at hvb
          have HDS : Hid (dProgs (k + 1) l4 = (dOps (val (r.take 2)).toNat (r.drop 2)).map fun u => (ps ++ [u.1], u.2)) := by show _ = _; simp only [dProgs, HDP.out, Option.bind_some]; rw [dNum_yes h2]; rfl
          have HB2 : Hid (BL (r.drop 2) ∧ (r.drop 2).length ≤ 65536) := ⟨HB.out.1.drop 2, by have := HB.out.2; simp; omega⟩
          have hpsl : Hid (ps.length = k) := (dProgs_some k HBL4.out HDP.out).2.2.1
          obtain ⟨m, hy⟩ : ∃ m : Nat, val (r.take 2) = m := ⟨(val (r.take 2)).toNat, by omega⟩
          rw [hy] at HN HDS hvb
          rw [Int.toNat_natCast] at HDS
          clear hy h2 hvl HDP
          generalize r.drop 2 = r2 at *
          have hm1 : m < 65536 := by omega
          go_wp2_with fail
          refine HN.out.mono ?_
          rintro e w5 ⟨rfl, hs, hg⟩
          have hgs := hg.size
          have HP2 : Hid (ScSt W w5 rb r2 w5.heap.size cf v8 (.slice none 0 0) ps []) := (HP.out.next hs hg).more (by omega)
          have HL4 : Hid (W.heap.size + 1 < w5.heap.size) := HP2.out.lt
          clear hs hg HN HP HB hgs hlim
          go_wp2_with fail
          go_loopw [7, 63] (fun v i wr => ∃ (j : Nat) (v7 : Value), j ≤ m ∧ v = v7 ∧ i = .int .i64 j ∧ Hid (∃ xs r3, dOps j r2 = some (xs, r3) ∧ ScSt W wr rb r3 w5.heap.size cf v8 (.slice none 0 0) ps [] ∧ CurRow wr w5.heap.size v7 xs ∧ BL r3 ∧ r3.length ≤ 65536 ∧ xs.length = j) ∧ w5.heap.size ≤ wr.heap.size) (fun _ i _ => m - (intOf i).toNat)
          case atStart => exact ⟨0, _, Nat.zero_le _, rfl, rfl, ⟨[], r2, rfl, HP2.out, World.ownsRow_nil _ _ _ _, HB2.out.1, HB2.out.2, rfl⟩, Nat.le_refl _⟩
          case round =>
            obtain ⟨j, v7, hj, rfl, rfl, HR, hlw⟩ := hrel
            clear HP2 HB2
            obtain ⟨xs, r3, hdo, hsc, hcr, hbl, hrl, hxl⟩ := HR.out
            have HP := Lib.hid hsc
            have HDO := Lib.hid hdo
            have HC := Lib.hid hcr
            have HXL := Lib.hid hxl
            have HB := Lib.hid (And.intro hbl hrl)
            clear hsc hdo hcr hbl hrl hxl HR
            by_cases hjm : j < m
            · have hji : (j : Int) < (m : Int) := by omega
              have ho := readOpFn rb r3 wr HP.out.str HB.out.1 HB.out.2
              unfold OpDec at ho
              have hdn : dOps (j + 1) r2 = (dOp r3).map fun z => (xs ++ [z.1], z.2) := by simp only [dOps, HDO.out, Option.bind_some]
              have hbo := fun o r4 => dOp_some (o := o) (r := r4) HB.out.1
              rcases hd : dOp r3 with _ | ⟨o, r4⟩
              · rw [hd] at ho hdn
                have HE : Hid (dScr l = none) := HDN.out (by rw [HDS.out, dOps_none (by omega : j + 1 ≤ m) hdn]; rfl)
                have HO := Lib.hid ho
                clear ho hdn hd hbo
                go_wp2_with fail
                refine HO.out.mono ?_
                rintro e w6 ⟨rfl, hg⟩
                have hgr := grown_trans HP.out.gr hg
                clear hg
                go_wp2_with fail
                exact ⟨rfl, scrDec_no HE.out hgr⟩
              · rw [hd] at ho hdn
                have HDN2 : Hid (dOps (j + 1) r2 = some (xs ++ [o], r4)) := hdn
                obtain ⟨he, hb4, _⟩ := hbo o r4 hd
                have HB4 : Hid (BL r4 ∧ r4.length ≤ 65536) := ⟨hb4, by have := HB.out.2; rw [← he] at this; simp at this; omega⟩
                have HO := Lib.hid ho
                clear ho hdn hd hbo he hb4 HB HDO
                go_wp2_with fail
                refine HO.out.mono ?_
                rintro e w6 ⟨rfl, hs, hg⟩
                have HP6 := Lib.hid (HP.out.next hs hg)
                have HC6 := Lib.hid (HC.out.kept hg (fun q e hv => by injection e with e; subst e; exact (own_elem HC.out hv).ne HP.out.str.elem (by decide) rfl))
                have hl6 : w5.heap.size ≤ w6.heap.size := Nat.le_trans hlw hg.size
                clear hs hg HP HC HO
                obtain ⟨i0, hi, hz0, hz1, hz2⟩ := info_parts op_info
                go_wp2_with (at_builtin; refine wpList_append_own _ rfl _ _ 41 rfl w5.heap.size 40 i0 (.agg #[.int .u8 0, .int .i64 0, .int .i64 0, .int .i64 0, .int .u32 0, .int .u8 0, .string ⟨#[]⟩]) 7 56 Tryz.underlying41 hi hz0 hz1 hz2 rfl (by decide) _ _ _ rfl (HC6.out.alloc _) ⟨w6.heap.size, 0, none⟩ 1 1 (opCells o) rfl rfl (news_op _ _ _) (one_op _) ?c3 ?c4 ?c5 ?_)
                case c3 => have := HXL.out; unfold maxLen; omega
                case c4 => have := HXL.out; omega
                case c5 => simp; omega
                intro v' w7 hown hgrow _
                have HA := Lib.hid (ops_pushedS HP6.out HC6.out hl6 HL4.out hown hgrow)
                clear hown hgrow HP6 HC6
                go_wp2_with fail
                go_roundw
                case rel => exact ⟨j + 1, _, by omega, rfl, by go_num, ⟨_, _, HDN2.out, HA.out.1, HA.out.2.1, HB4.out.1, HB4.out.2, by simp [HXL.out]⟩, HA.out.2.2⟩
                case measure => simp [intOf]; omega
            · obtain rfl : j = m := by omega
              have HDE : Hid (dProgs (k + 1) l4 = some (ps ++ [xs], r3)) := by show _ = _; rw [HDS.out, HDO.out]; rfl
              have n8 := HP.out.bld.c8
              obtain ⟨A, c, rfl⟩ := own_form HC.out
              obtain ⟨vals, h8, hp⟩ := HP.out.bld.progs
              have H8 := Lib.hid h8
              have HPV := Lib.hid hp
              clear h8 hp
              obtain ⟨i0, hi, hz0, hz1, hz2⟩ := info_parts slice_info
              have hpl : ps.length < 256 := by have := hpsl.out; omega
              have hB11 : W.heap.size ≤ wr.heap.size := by have := HP.out.lt; omega
              generalize hnx : xs.length = nx at *
              have HNX := Lib.hid hnx
              clear hnx
              go_wp2_with (at_builtin; go_loud (refine wpList_append_own _ rfl _ _ 25 rfl W.heap.size 41 i0 (.slice none 0 0) 1 24 Tryz.underlying25 hi hz0 hz1 hz2 rfl (by decide) _ _ _ rfl (H8.out.alloc _) ⟨wr.heap.size, 0, none⟩ 1 1 [.slice A nx c] rfl rfl (news_val _ _ _) (one_slice _ _ _) ?c3 ?c4 ?c5 ?_))
              case c3 => unfold maxLen; omega
              case c4 => omega
              case c5 => simp; omega
              intro v' w12 hown hgrow _
              obtain ⟨A', c', rfl⟩ := own_form hown
              have hgz : wr.heap.size ≤ w12.heap.size := by have := hgrow.size; simp at this; omega
              obtain ⟨q1, q2, q3⟩ := prog_pushedS HP.out HC.out hlw H8.out HPV.out hown hgrow
              have HA := Lib.hid q3
              clear hown hgrow HP HC H8 HPV q3
              go_wp2_with fail
              go_roundw
              case rel => exact ⟨k + 1, by omega, by go_num, _, _, _, _, by simp; exact hgz, HDE.out, HA.out, HB.out.1, HB.out.2⟩
              case measure => simp [intOf]; omega
        · obtain rfl : k = cl := by omega
          have HD1 : Hid (dScr l = (dPicks r).map fun k => (⟨cf, ps, k.1⟩, k.2)) := by show _ = _; rw [HD0.out, HDP.out]; rfl
          clear HD0 HDP HBL4
          by_cases h2 : 2 ≤ r.length
          case neg =>
            have HN := Lib.hid (num2_no rb r wr HP.out.str (by omega))
            have HE : Hid (dScr l = none) := by show _ = _; rw [HD1.out]; unfold dPicks; rw [dNum_no h2]; rfl
            go_wp2_with fail
            refine HN.out.mono ?_
            rintro e w5 ⟨rfl, rfl⟩
            go_wp2_with fail
            exact ⟨rfl, scrDec_no HE.out HP.out.gr⟩
          have HN := Lib.hid (num2_yes rb r wr HP.out.str HB.out.1 h2 HB.out.2)
          have hvb := val_bd _ (HB.out.1.take 2)
          have hvl : (r.take 2).length = 2 := by simp; omega
          rw [hvl, pow2] at hvb
          have HD2 : Hid (dScr l = (dTake (r.drop 2) (val (r.take 2)).toNat).map fun k => (⟨cf, ps, k.1⟩, k.2)) := by show _ = _; rw [HD1.out]; unfold dPicks; rw [dNum_yes h2]; rfl
          have HB2 : Hid (BL (r.drop 2) ∧ (r.drop 2).length ≤ 65536) := ⟨HB.out.1.drop 2, by have := HB.out.2; simp; omega⟩
          obtain ⟨n, hy⟩ : ∃ n : Nat, val (r.take 2) = n := ⟨(val (r.take 2)).toNat, by omega⟩
          rw [hy] at HN HD2 hvb
          rw [Int.toNat_natCast] at HD2
          clear hy HD1 h2 hvl
          generalize r.drop 2 = r2 at *
          have hn1 : n ≤ 65536 := by omega
          go_wp2_with fail
          refine HN.out.mono ?_
          rintro e w5 ⟨rfl, hs, hg⟩
          have HP2 := Lib.hid (HP.out.next hs hg)
          clear hs hg HN HP HB
          by_cases h3 : n ≤ r2.length
          case neg =>
            have HN := Lib.hid (take_no n rb r2 w5 HP2.out.str (by omega) hn1)
            have HE : Hid (dScr l = none) := by show _ = _; rw [HD2.out, dTake_no h3]; rfl
            go_wp2_with fail
            refine HN.out.mono ?_
            rintro e w6 ⟨rfl, rfl⟩
            go_wp2_with fail
            exact ⟨rfl, scrDec_no HE.out HP2.out.gr⟩
          have HN := Lib.hid (take_yes n rb r2 w5 HP2.out.str h3 HB2.out.2)
          have HD3 : Hid (dScr l = some (⟨cf, ps, r2.take n⟩, r2.drop n)) := by show _ = _; rw [HD2.out, dTake_yes h3]; rfl
          have HBT : Hid (BL (r2.take n)) := HB2.out.1.take n
          have htl : (r2.take n).length = n := by simp; omega
          clear HD2 HB2 h3
          generalize r2.take n = t at *
          generalize r2.drop n = r5 at *
          have hsz : (bs t).size = n := by rw [bs_size, htl]
          have HTL := Lib.hid htl
          clear htl
          go_wp2_with fail
          refine HN.out.mono ?_
          rintro e w6 ⟨rfl, hs, hg⟩
          have HP3 := Lib.hid (HP2.out.next hs hg)
          clear hs hg HN HP2
          go_wp2_with fail
          go_loopw [84] (fun i wr => ∃ (j : Nat), j ≤ n ∧ i = .int .i64 j ∧ Hid (∃ v9, ScSt W wr rb r5 lim cf v8 v9 ps (t.take j))) (fun i _ => n - (intOf i).toNat)
          case atStart => exact ⟨0, by omega, rfl, _, HP3.out⟩
          case round =>
            obtain ⟨j, hj, rfl, HR⟩ := hrel
            clear HP3
            obtain ⟨v9, hsc⟩ := HR.out
            have HP := Lib.hid hsc
            clear hsc HR
            by_cases hjn : j < n
            · have hji : (j : Int) < (n : Int) := by omega
              have hjs : (j : Int) < ((bs t).size : Int) := by omega
              have hj0 : (0 : Int) ≤ (j : Int) := by omega
              have hmb : j < (bs t).size := by omega
              have hbb := UInt8.toNat_lt ((bs t)[j]'hmb)
              have hw : IntKind.i64.wrap ((((bs t)[j]'hmb).toNat : Nat) : Int) = (((bs t)[j]'hmb).toNat : Int) := IntWalk.i64_in _ (by omega)
              have HBV : Hid ((((bs t)[j]'hmb).toNat : Int) = t.getD j 0) := by
                have hmt : j < t.length := by rw [HTL.out]; exact hjn
                have e1 := Runes.bt_lt hmb
                have e2 := bt_bs HBT.out j hmt
                show _ = _
                rw [← e1, e2]; simp [List.getD_eq_getElem?_getD, hmt]
              have HTK : Hid (t.take (j + 1) = t.take j ++ [(((bs t)[j]'hmb).toNat : Int)]) := by
                show _ = _; rw [HBV.out]; exact take_snoc 0 t j (by rw [HTL.out]; exact hjn)
              have HKL : Hid ((t.take j).length = j) := by show _ = _; have := HTL.out; simp; omega
              generalize t.take j = tk at *
              have n9 := HP.out.bld.c9
              have HOW := Lib.hid HP.out.bld.picks
              obtain ⟨A9, c9, rfl⟩ := own_slice HP.out.bld.picks
              rw [HKL.out] at HOW
              generalize hnk : tk.length = nk at *
              have HNK := Lib.hid hnk
              clear hnk
              have hnk2 : nk ≤ 65536 := by have := HKL.out; omega
              have hB11 : W.heap.size ≤ wr.heap.size := by have := HP.out.lt; omega
              have n9a : (wr.alloc (.cells #[.int .i64 (((bs t)[j]'hmb).toNat : Int)] 3)).cell? ⟨W.heap.size + 1, 9, none⟩ = some (.slice A9 nk c9) := (World.cell?_alloc_past _ _ _ (by exact HP.out.lt)).trans n9
              obtain ⟨i0, hi, hz0, hz1, hz2⟩ := info_parts int_info
              go_wp2_with fail
              go_region_law (refine step_append_lies _ rfl (.tmp 88) (.tmp 93) 26 rfl W.heap.size 3 i0 (.int .i64 0) 1 8 Tryz.underlying26 hi hz0 hz1 hz2 rfl (by decide) (.slice A9 nk c9) nk (tk.map (Value.int .i64)) (by simp [Act.eval, Act.put]) (own_drew (by have := HP.out.bld.picks; rw [HNK.out] at this; exact this.alloc _)) _ 1 1 [.int .i64 (((bs t)[j]'hmb).toNat : Int)] (by simp [Act.eval, Act.put]) rfl (news_i64 _ _) (one_one _) (by omega) (by unfold maxLen; omega) (by omega) (by simp; omega) _ rfl ?_; intro g cap w11 hown hgrow _ _; (obtain ⟨q1, q2, q3⟩ := pick_pushedS HP.out HNK.out hown (grown_undrew hgrow)); (have HA := Lib.hid q3); clear q3)
              all_goals
                go_wp2_with fail
                go_roundw
                case rel => exact ⟨j + 1, by omega, by go_num, _, by rw [HTK.out]; exact HA.out⟩
                case measure => simp [intOf]; omega
            · obtain rfl : j = n := by omega
              have HTK : Hid (t.take j = t) := List.take_of_length_le (by rw [HTL.out]; omega)
              rw [HTK.out] at HP
              obtain ⟨vals8, h8, hp8⟩ := HP.out.bld.progs
              obtain ⟨A8, x8, rfl⟩ := own_slice h8
              obtain ⟨A9, x9, rfl⟩ := own_slice HP.out.bld.picks
              clear h8 hp8
              have n0 := HP.out.bld.c0
              have n1 := HP.out.bld.c1
              have n2 := HP.out.bld.c2
              have n3 := HP.out.bld.c3
              have n4 := HP.out.bld.c4
              have n5 := HP.out.bld.c5
              have n6 := HP.out.bld.c6
              have n7 := HP.out.bld.c7
              have n8 := HP.out.bld.c8
              have n9 := HP.out.bld.c9
              have qz0 : wr.cell? ⟨W.heap.size, 0, none⟩ = some (.int .i64 0) := by rw [cell_of_row _ _ 0 _ _ _ HP.out.res]; rfl
              have z0 : wr.frozen? ⟨W.heap.size, 0, none⟩ = false := (show ElemT wr W.heap.size 28 from ⟨_, HP.out.res⟩).frozen 0
              have qz1 : wr.cell? ⟨W.heap.size, 1, none⟩ = some (.int .u64 0) := by rw [cell_of_row _ _ 1 _ _ _ HP.out.res]; rfl
              have z1 : wr.frozen? ⟨W.heap.size, 1, none⟩ = false := (show ElemT wr W.heap.size 28 from ⟨_, HP.out.res⟩).frozen 1
              have qz2 : wr.cell? ⟨W.heap.size, 2, none⟩ = some (.int .i64 0) := by rw [cell_of_row _ _ 2 _ _ _ HP.out.res]; rfl
              have z2 : wr.frozen? ⟨W.heap.size, 2, none⟩ = false := (show ElemT wr W.heap.size 28 from ⟨_, HP.out.res⟩).frozen 2
              have qz3 : wr.cell? ⟨W.heap.size, 3, none⟩ = some (.int .i64 0) := by rw [cell_of_row _ _ 3 _ _ _ HP.out.res]; rfl
              have z3 : wr.frozen? ⟨W.heap.size, 3, none⟩ = false := (show ElemT wr W.heap.size 28 from ⟨_, HP.out.res⟩).frozen 3
              have qz4 : wr.cell? ⟨W.heap.size, 4, none⟩ = some (.int .i64 0) := by rw [cell_of_row _ _ 4 _ _ _ HP.out.res]; rfl
              have z4 : wr.frozen? ⟨W.heap.size, 4, none⟩ = false := (show ElemT wr W.heap.size 28 from ⟨_, HP.out.res⟩).frozen 4
              have qz5 : wr.cell? ⟨W.heap.size, 5, none⟩ = some (.int .i64 0) := by rw [cell_of_row _ _ 5 _ _ _ HP.out.res]; rfl
              have z5 : wr.frozen? ⟨W.heap.size, 5, none⟩ = false := (show ElemT wr W.heap.size 28 from ⟨_, HP.out.res⟩).frozen 5
              have qz6 : wr.cell? ⟨W.heap.size, 6, none⟩ = some (.int .i64 0) := by rw [cell_of_row _ _ 6 _ _ _ HP.out.res]; rfl
              have z6 : wr.frozen? ⟨W.heap.size, 6, none⟩ = false := (show ElemT wr W.heap.size 28 from ⟨_, HP.out.res⟩).frozen 6
              have qz7 : wr.cell? ⟨W.heap.size, 7, none⟩ = some (.string ⟨#[]⟩) := by rw [cell_of_row _ _ 7 _ _ _ HP.out.res]; rfl
              have z7 : wr.frozen? ⟨W.heap.size, 7, none⟩ = false := (show ElemT wr W.heap.size 28 from ⟨_, HP.out.res⟩).frozen 7
              have qz8 : wr.cell? ⟨W.heap.size, 8, none⟩ = some (.slice none 0 0) := by rw [cell_of_row _ _ 8 _ _ _ HP.out.res]; rfl
              have z8 : wr.frozen? ⟨W.heap.size, 8, none⟩ = false := (show ElemT wr W.heap.size 28 from ⟨_, HP.out.res⟩).frozen 8
              have qz9 : wr.cell? ⟨W.heap.size, 9, none⟩ = some (.slice none 0 0) := by rw [cell_of_row _ _ 9 _ _ _ HP.out.res]; rfl
              have z9 : wr.frozen? ⟨W.heap.size, 9, none⟩ = false := (show ElemT wr W.heap.size 28 from ⟨_, HP.out.res⟩).frozen 9
              go_wp2_with fail
              refine bodyPost_ret (v := scrVal cf (.slice A8 ps.length x8) (.slice A9 t.length x9)) (by simp [results, Tryz.results23, go_sem, qz0, qz1, qz2, qz3, qz4, qz5, qz6, qz7, qz8, qz9]) rfl (scrDec_yes HD3.out ?_ ?_ ?_)
              · have ht : ElemT wr W.heap.size 28 := ⟨_, HP.out.res⟩
                have hne : W.heap.size ≠ W.heap.size + 1 := by omega
                with_reducible refine ⟨_, HP.out.bld.but (q := W.heap.size) ht hne ?c1⟩
                case c1 =>
                  iterate 9 with_reducible refine grown_trans ?_ (set_grown _ _ _ _)
                  with_reducible exact set_grown _ _ _ _
              · have hne : rb ≠ W.heap.size := by have := HP.out.hrb; omega
                have hk : ∀ (W1 : World) (i : Nat) (v : Value), StrBox W1 rb 73 (bs r5) → StrBox (W1.setCell ⟨W.heap.size, i, none⟩ v) rb 73 (bs r5) := fun W1 i v h => ⟨(World.cell?_of_block (a := ⟨rb, 0, none⟩) (Below.heap_setCell _ _ _ _ hne)).trans h.cell, h.elem.set _ _ rfl⟩
                iterate 10 with_reducible refine hk _ _ _ ?_
                exact HP.out.str
              · have hk : ∀ (W1 : World) (i : Nat) (v : Value), W.grownBy W1 (some rb) → W.grownBy (W1.setCell ⟨W.heap.size, i, none⟩ v) (some rb) := fun W1 i v h => ⟨h.os, h.tape, h.output, by simpa using h.size, fun q hq hr => (Below.heap_setCell _ _ _ _ (by show q ≠ W.heap.size; omega)).trans (h.block q hq hr)⟩
                iterate 10 with_reducible refine hk _ _ _ ?_
                exact HP.out.gr
end Go.Proofs.YtbjadgggpkbjmaaGreat
namespace Go.Proofs.YtbjadgggpkbjmaaGreat
open Go.RowKit
open Runes (bs bt)

theorem set_same {w : World} {b i : Nat} {cs : Array Value} {t : TypeId} {fr : Nat × Nat} {v : Value} (hb : w.heap[b]? = some (.cells cs t fr)) (hi : cs[i]? = some v) : w.setCell ⟨b, i, none⟩ v = w := by
  have hh : (w.setCell ⟨b, i, none⟩ v).heap = w.heap := by
    apply Array.ext_getElem?
    intro k
    by_cases hk : k = b
    · subst hk
      have e : (w.setCell ⟨k, i, none⟩ v).heap[k]? = some (.cells (cs.setIfInBounds i v) t fr) := by simp [World.setCell, Array.getElem?_modify, hb]
      rw [e, hb]
      congr 2
      apply Array.ext_getElem?
      intro j
      rw [Array.getElem?_setIfInBounds]
      split
      · rename_i e; subst e
        split
        · exact hi.symm
        · rename_i h; rw [Array.getElem?_eq_none (by omega)]
      · rfl
    · rw [heap_setCell_other _ _ _ _ hk]
  unfold World.setCell at hh ⊢
  cases w
  simp_all
theorem frame18 (p q : Addr) (v : Value) : (#[Value.pointer (some p), Value.pointer (some q)] ++ ((Array.replicate 16 undef).setIfInBounds 3 v).setIfInBounds 0 v : Array Value) = #[.pointer (some p), .pointer (some q), v, undef, undef, v, undef, undef, undef, undef, undef, undef, undef, undef, undef, undef, undef, undef] := by
  rfl
set_option maxHeartbeats 1000000 in
theorem catch_idle (p q : Addr) (w : World) :
    CallsD Tryz.prog 22 #[.pointer (some p), .pointer (some q)] .returning w fun e u' w' => e = .returned (.tuple #[]) ∧ u' = .returning ∧ w' = w := by
  refine callsD_of_wpS Tryz.func22 rfl fun c₀ cs hu => ?_
  refine wpS_seq ?_
  generalize hQ : Exit.thenS (Code.wpS Tryz.prog _ _) _ = QQ
  apply wpS_region
  simp [wpOpsS, go_sem, recoverD, hu, Tryz.ntmps22]
  rw [frame18, ← hQ]
  simp only [Exit.thenS]
  clear hQ
  refine wpS_of_wp ?_
  go_wp2
  cases c₀
  simp_all [bodyPostS, results, Tryz.results22]
@[go_sem] theorem ta33 (w : World) (v : Value) : (Instr.typeAssert (.iface 31 v) 20 31 true).run Tryz.prog w = .ok (.tuple #[v, .bool true]) w := by kernel_rfl
set_option maxHeartbeats 1000000 in
set_option maxRecDepth 100000 in
theorem catch_form (b q : Nat) (older : List PanicEntry) (w : World) (hb : w.heap[b]? = some zeroScr) (hc : w.cell? ⟨q, 0, none⟩ = some (.int .i64 0)) (hz : w.frozen? ⟨q, 0, none⟩ = false) (hne : b ≠ q) :
    CallsD Tryz.prog 22 #[.pointer (some ⟨b, 0, none⟩), .pointer (some ⟨q, 0, none⟩)] (.panicking ({ v := .iface 31 (.int .i64 4), recovered := false } :: older)) w fun e u' w' =>
      e = .returned (.tuple #[]) ∧ u' = .panicking ({ v := .iface 31 (.int .i64 4), recovered := true } :: older) ∧ w' = w.setCell ⟨q, 0, none⟩ (.int .i64 4) := by
  refine callsD_of_wpS Tryz.func22 rfl fun c₀ cs hu => ?_
  refine wpS_seq ?_
  generalize hQ : Exit.thenS (Code.wpS Tryz.prog _ _) _ = QQ
  apply wpS_region
  simp [wpOpsS, go_sem, recoverD, hu, Tryz.ntmps22]
  rw [frame18, ← hQ]
  simp only [Exit.thenS]
  clear hQ
  have qz0 : w.cell? ⟨b, 0, none⟩ = some (.int .i64 0) := by rw [cell_of_row _ _ 0 _ _ _ hb]; rfl
  have z0 : w.frozen? ⟨b, 0, none⟩ = false := (show ElemT w b 28 from ⟨_, hb⟩).frozen 0
  have qz1 : w.cell? ⟨b, 1, none⟩ = some (.int .u64 0) := by rw [cell_of_row _ _ 1 _ _ _ hb]; rfl
  have z1 : w.frozen? ⟨b, 1, none⟩ = false := (show ElemT w b 28 from ⟨_, hb⟩).frozen 1
  have qz2 : w.cell? ⟨b, 2, none⟩ = some (.int .i64 0) := by rw [cell_of_row _ _ 2 _ _ _ hb]; rfl
  have z2 : w.frozen? ⟨b, 2, none⟩ = false := (show ElemT w b 28 from ⟨_, hb⟩).frozen 2
  have qz3 : w.cell? ⟨b, 3, none⟩ = some (.int .i64 0) := by rw [cell_of_row _ _ 3 _ _ _ hb]; rfl
  have z3 : w.frozen? ⟨b, 3, none⟩ = false := (show ElemT w b 28 from ⟨_, hb⟩).frozen 3
  have qz4 : w.cell? ⟨b, 4, none⟩ = some (.int .i64 0) := by rw [cell_of_row _ _ 4 _ _ _ hb]; rfl
  have z4 : w.frozen? ⟨b, 4, none⟩ = false := (show ElemT w b 28 from ⟨_, hb⟩).frozen 4
  have qz5 : w.cell? ⟨b, 5, none⟩ = some (.int .i64 0) := by rw [cell_of_row _ _ 5 _ _ _ hb]; rfl
  have z5 : w.frozen? ⟨b, 5, none⟩ = false := (show ElemT w b 28 from ⟨_, hb⟩).frozen 5
  have qz6 : w.cell? ⟨b, 6, none⟩ = some (.int .i64 0) := by rw [cell_of_row _ _ 6 _ _ _ hb]; rfl
  have z6 : w.frozen? ⟨b, 6, none⟩ = false := (show ElemT w b 28 from ⟨_, hb⟩).frozen 6
  have qz7 : w.cell? ⟨b, 7, none⟩ = some (.string ⟨#[]⟩) := by rw [cell_of_row _ _ 7 _ _ _ hb]; rfl
  have z7 : w.frozen? ⟨b, 7, none⟩ = false := (show ElemT w b 28 from ⟨_, hb⟩).frozen 7
  have qz8 : w.cell? ⟨b, 8, none⟩ = some (.slice none 0 0) := by rw [cell_of_row _ _ 8 _ _ _ hb]; rfl
  have z8 : w.frozen? ⟨b, 8, none⟩ = false := (show ElemT w b 28 from ⟨_, hb⟩).frozen 8
  have qz9 : w.cell? ⟨b, 9, none⟩ = some (.slice none 0 0) := by rw [cell_of_row _ _ 9 _ _ _ hb]; rfl
  have z9 : w.frozen? ⟨b, 9, none⟩ = false := (show ElemT w b 28 from ⟨_, hb⟩).frozen 9
  have HB := Lib.hid hb
  clear hb
  refine wpS_of_wp ?_
  go_wp2
  have hb := HB.out
  clear qz0 qz1 qz2 qz3 qz4 qz5 qz6 qz7 qz8 qz9 z0 z1 z2 z3 z4 z5 z6 z7 z8 z9
  unfold zeroScr at hb
  rw [set_same hb (i := 0) (v := (.int .i64 0)) rfl, set_same hb (i := 1) (v := (.int .u64 0)) rfl, set_same hb (i := 2) (v := (.int .i64 0)) rfl, set_same hb (i := 3) (v := (.int .i64 0)) rfl, set_same hb (i := 4) (v := (.int .i64 0)) rfl, set_same hb (i := 5) (v := (.int .i64 0)) rfl, set_same hb (i := 6) (v := (.int .i64 0)) rfl, set_same hb (i := 7) (v := (.string ⟨#[]⟩)) rfl, set_same hb (i := 8) (v := (.slice none 0 0)) rfl, set_same hb (i := 9) (v := (.slice none 0 0)) rfl]
  clear HB hb hc hz
  generalize w.setCell ⟨q, 0, none⟩ (.int .i64 4) = w2
  cases c₀
  simp_all [bodyPostS, results, Tryz.results22]
end Go.Proofs.YtbjadgggpkbjmaaGreat
namespace Go.Proofs.YtbjadgggpkbjmaaGreat
open Go.RowKit
open Runes (bs bt)

def decErr (l : List Int) : Int := if 65536 < l.length then 5 else 4
def DecodeRes (l : List Int) (w : World) (e : Ending) (w' : World) : Prop :=
  Below w.heap.size w w' ∧
  ((∃ s v, ScrOk s ∧ ScrTy s ∧ encScr s = l ∧ e = .returned (.tuple #[v, .int .i64 0]) ∧ ScrAt w' w'.heap.size v s) ∨
   ((¬ ∃ s, ScrOk s ∧ ScrTy s ∧ encScr s = l) ∧ e = .returned (.tuple #[scrVal cfg0 (.slice none 0 0) (.slice none 0 0), .int .i64 (decErr l)])))
theorem res18 {ts : Array Value} {A Q : Nat} {c : CfgV} {p k : Value} {e : Int} {W : World} (h2 : ts[2]? = some (.pointer (some ⟨A, 0, none⟩))) (h3 : ts[3]? = some (.pointer (some ⟨Q, 0, none⟩)))
    (hA : W.heap[A]? = some (scrBox c p k)) (hQ : W.cell? ⟨Q, 0, none⟩ = some (.int .i64 e)) : (results Tryz.f8 ts).run Tryz.prog W = .ok (.tuple #[scrVal c p k, .int .i64 e]) W := by
  obtain ⟨c0, c1, c2, c3, c4, c5, c6, c7, c8, c9⟩ := box_cell hA
  simp [results, Tryz.results8, go_sem, h2, h3, c0, c1, c2, c3, c4, c5, c6, c7, c8, c9, hQ, scrVal]
set_option maxHeartbeats 1000000 in
set_option maxRecDepth 100000 in
theorem dec_long (l : List Int) (w : World) (hm : ¬ l.length ≤ 65536) (hs : l.length ≤ 9223372036854775807) : Calls Tryz.prog 8 #[.string (bs l)] w (DecodeRes l w) := by
  have hmf : ∀ (fn : Fn) (first cap : Array Value) (w : World), (Instr.makeFunc fn first cap).run Tryz.prog w = .ok (.func fn first cap) w := fun _ _ _ _ => rfl
  have hb : (w.alloc zeroScr).heap[w.heap.size]? = some zeroScr := heap_alloc_new _ _
  have hsz : ((bs l).size : Int) = (l.length : Int) := by rw [bs_size]
  have hd : decide ((65536 : Int) < ((bs l).size : Int)) = true := by rw [hsz]; simp; omega
  go_enter_defers Tryz.func8, Tryz.ntmps8
  go_wp2
  refine ⟨_, res18 (A := w.heap.size) (Q := w.heap.size + 1) (c := cfg0) (p := .slice none 0 0) (k := .slice none 0 0) (e := 5) rfl rfl ?_ ?_, ?_, .inr ⟨?_, ?_⟩⟩
  · exact (Below.heap_alloc _ _ _ (by simp)).trans hb
  · simp [go_sem]
  · exact ((Below.refl _ _).alloc (Nat.le_refl _) _).alloc (by simp) _
  · rintro ⟨s, h1, h2, h3⟩
    have := h1.size
    rw [h3] at this
    exact hm this
  · unfold decErr; rw [if_pos (by omega)]
/-- The world in which the script is read. -/
structure DecW (w W : World) (l : List Int) : Prop where
  a : W.heap[w.heap.size]? = some zeroScr
  q : W.heap[w.heap.size + 1]? = some (.cells #[.int .i64 0] 31)
  s : StrBox W (w.heap.size + 1 + 1) 73 (bs l)
  b : Below w.heap.size w W
theorem decW_start (w : World) (l : List Int) : DecW w (((w.alloc zeroScr).alloc (.cells #[.int .i64 0] 31)).alloc (.cells #[.string (bs l)] 73)) l := by
  have h2 : (((w.alloc zeroScr).alloc (.cells #[.int .i64 0] 31)).alloc (.cells #[.string (bs l)] 73)).heap[w.heap.size + 1 + 1]? = some (.cells #[.string (bs l)] 73) := heap_new _ (by simp)
  refine ⟨?_, ?_, ⟨by rw [cell_of_row _ _ 0 _ _ _ h2]; rfl, ⟨_, h2⟩⟩, (((Below.refl _ _).alloc (Nat.le_refl _) _).alloc (by simp) _).alloc (by simp; omega) _⟩
  · exact (Below.heap_alloc _ _ _ (by simp; omega)).trans ((Below.heap_alloc _ _ _ (by simp)).trans (heap_alloc_new _ _))
  · exact (Below.heap_alloc _ _ _ (by simp)).trans (heap_new _ (by simp))
set_option maxHeartbeats 1000000 in
set_option maxRecDepth 100000 in
theorem dec_form (l : List Int) (w : World) (hm : l.length ≤ 65536) (hl : BL l) (hn : dScr l = none) : Calls Tryz.prog 8 #[.string (bs l)] w (DecodeRes l w) := by
  have hmf : ∀ (fn : Fn) (first cap : Array Value) (w : World), (Instr.makeFunc fn first cap).run Tryz.prog w = .ok (.func fn first cap) w := fun _ _ _ _ => rfl
  have hd : decide ((65536 : Int) < ((bs l).size : Int)) = false := by rw [bs_size]; simp; omega
  have HW := Lib.hid (decW_start w l)
  have HM := Lib.hid (And.intro hm (And.intro hl hn))
  clear hm hl hn
  go_enter_defers Tryz.func8, Tryz.ntmps8
  go_upto_region 5 with fail
  generalize ((w.alloc zeroScr).alloc (.cells #[.int .i64 0] 31)).alloc (.cells #[.string (bs l)] 73) = W1 at *
  have HR := Lib.hid (readScrFn (w.heap.size + 1 + 1) l W1 HW.out.s HM.out.2.1 HM.out.1)
  go_wp2_with fail
  refine HR.out.mono ?_
  rintro e w1 h1
  unfold ScrDec at h1
  rw [HM.out.2.2] at h1
  obtain ⟨rfl, hg⟩ := h1
  go_wp2
  have hA : w1.heap[w.heap.size]? = some zeroScr := (hg.block _ (heap_lt HW.out.a) (by intro e; injection e; omega)).trans HW.out.a
  have hQ : w1.heap[w.heap.size + 1]? = some (.cells #[.int .i64 0] 31) := (hg.block _ (heap_lt HW.out.q) (by intro e; injection e; omega)).trans HW.out.q
  have hB : Below w.heap.size w w1 := HW.out.b.grown hg HW.out.b.size (by intro k e; injection e; omega)
  have hQ1 : w1.cell? ⟨w.heap.size + 1, 0, none⟩ = some (.int .i64 0) := by rw [cell_of_row _ _ 0 _ _ _ hQ]; rfl
  have hQ2 : w1.frozen? ⟨w.heap.size + 1, 0, none⟩ = false := (show ElemT w1 (w.heap.size + 1) 31 from ⟨_, hQ⟩).frozen 0
  unfold bodyPostD
  refine leaves_cons (f := 22) (args := #[.pointer (some ⟨w.heap.size, 0, none⟩), .pointer (some ⟨w.heap.size + 1, 0, none⟩)]) (by simp) (by simp [go_sem]) ?_
  refine (catch_form w.heap.size (w.heap.size + 1) [] w1 hA hQ1 hQ2 (by omega)).mono ?_
  rintro e u' w'' ⟨rfl, rfl, rfl⟩
  refine ⟨_, res18 (A := w.heap.size) (Q := w.heap.size + 1) (c := cfg0) (p := .slice none 0 0) (k := .slice none 0 0) (e := 4) rfl rfl ((heap_setCell_other _ _ _ _ (by simp)).trans hA) (World.cell?_setCell_same _ _ _ hQ1), hB.setCell (by simp) _, .inr ⟨?_, ?_⟩⟩
  · rintro ⟨s, y1, y2, y3⟩
    have := (dec_iff l HM.out.2.1 s).2 ⟨y1, y2, y3⟩
    rw [HM.out.2.2] at this
    cases this.1
  · unfold decErr; rw [if_neg (by have := HM.out.1; omega)]
def scrSet (W : World) (A : Nat) (c : CfgV) (p k : Value) : World := ((((((((((W.setCell ⟨A, 0, none⟩ (.int .i64 c.slots)).setCell ⟨A, 1, none⟩ (.int .u64 c.gens)).setCell ⟨A, 2, none⟩ (.int .i64 c.clients)).setCell ⟨A, 3, none⟩ (.int .i64 c.readers)).setCell ⟨A, 4, none⟩ (.int .i64 c.queue)).setCell ⟨A, 5, none⟩ (.int .i64 c.batch)).setCell ⟨A, 6, none⟩ (.int .i64 c.feed)).setCell ⟨A, 7, none⟩ (.string c.text)).setCell ⟨A, 8, none⟩ p).setCell ⟨A, 9, none⟩ k)
theorem scrSet_a {W : World} {A : Nat} {c c0 : CfgV} {p k p0 k0 : Value} (h : W.heap[A]? = some (scrBox c0 p0 k0)) : (scrSet W A c p k).heap[A]? = some (scrBox c p k) := by
  unfold scrSet
  simp [World.setCell, Array.getElem?_modify, h]
theorem scrSet_o {W : World} {A i : Nat} (c : CfgV) (p k : Value) (h : i ≠ A) : (scrSet W A c p k).heap[i]? = W.heap[i]? := by
  unfold scrSet
  have hk : ∀ (W : World) (j : Nat) (v : Value), (W.setCell ⟨A, j, none⟩ v).heap[i]? = W.heap[i]? := fun W j v => Below.heap_setCell _ _ _ _ h
  simp only [hk]
theorem scrSet_b {w W : World} {A : Nat} (c : CfgV) (p k : Value) (h : Below w.heap.size w W) (hA : w.heap.size ≤ A) : Below w.heap.size w (scrSet W A c p k) := by
  unfold scrSet
  exact ((((((((((h.setCell hA _).setCell hA _).setCell hA _).setCell hA _).setCell hA _).setCell hA _).setCell hA _).setCell hA _).setCell hA _).setCell hA _)
theorem scrSet_s {W : World} {A : Nat} (c : CfgV) (p k : Value) : (scrSet W A c p k).heap.size = W.heap.size := by
  unfold scrSet World.setCell; simp
theorem scrSet_g (W : World) (A : Nat) (c : CfgV) (p k : Value) : W.grownBy (scrSet W A c p k) (some A) := by
  unfold scrSet
  iterate 9 with_reducible refine grown_trans ?_ (set_grown _ _ _ _)
  with_reducible exact set_grown _ _ _ _
/-- The world in which the script that was read is checked. -/
structure DecW2 (w W : World) (s : ScrV) (v8 v9 : Value) (r : List Int) : Prop where
  a : W.heap[w.heap.size]? = some (scrBox s.cfg v8 v9)
  q : W.heap[w.heap.size + 1]? = some (.cells #[.int .i64 0] 31)
  str : W.cell? ⟨w.heap.size + 1 + 1, 0, none⟩ = some (.string (bs r))
  b : Below w.heap.size w W
  scr : ∃ A8 x8 A9 x9, v8 = .slice A8 s.progs.length x8 ∧ v9 = .slice A9 s.picks.length x9 ∧ ProgsAt W W.heap.size A8 s.progs ∧ Ints W W.heap.size A9 s.picks
theorem decW2_mk {w w1 W1 : World} {s : ScrV} {v8 v9 : Value} {r : List Int} {c0 : CfgV} {p0 k0 : Value} {lim : Nat} (hA : w1.heap[w.heap.size]? = some (scrBox c0 p0 k0)) (hQ : w1.heap[w.heap.size + 1]? = some (.cells #[.int .i64 0] 31))
    (hB : Below w.heap.size w w1) (hs : StrBox w1 (w.heap.size + 1 + 1) 73 (bs r)) (hv : Bld w1 W1.heap.size (W1.heap.size + 1) lim s.cfg v8 v9 s.progs s.picks) (hlt : w.heap.size < W1.heap.size) :
    DecW2 w (scrSet w1 w.heap.size s.cfg v8 v9) s v8 v9 r := by
  have hb : ∀ k, k ≠ w.heap.size → (scrSet w1 w.heap.size s.cfg v8 v9).heap[k]? = w1.heap[k]? := fun k hk => scrSet_o _ _ _ hk
  have hg := scrSet_g w1 w.heap.size s.cfg v8 v9
  refine ⟨scrSet_a hA, (hb (w.heap.size + 1) (by omega)).trans hQ, (World.cell?_of_block (a := ⟨w.heap.size + 1 + 1, 0, none⟩) (hb (w.heap.size + 1 + 1) (by omega))).trans hs.cell, scrSet_b _ _ _ hB (Nat.le_refl _), ?_⟩
  obtain ⟨Ap, cp, Ak, ck, e, hP, hK⟩ := (hv.but (q := w.heap.size) ⟨_, hA⟩ (show w.heap.size ≠ W1.heap.size + 1 by omega) hg).scr
  injection e with e
  injection e with e
  injection e with _ e; injection e with _ e; injection e with _ e; injection e with _ e; injection e with _ e; injection e with _ e; injection e with _ e; injection e with _ e; injection e with e8 e; injection e with e9 e
  exact ⟨Ap, cp, Ak, ck, e8, e9, hP, hK⟩
theorem leave_idle {R : Ending → World → Prop} {ts : Array Value} {A Q : Nat} {c : CfgV} {p k : Value} {e : Int} {W : World} (h2 : ts[2]? = some (.pointer (some ⟨A, 0, none⟩))) (h3 : ts[3]? = some (.pointer (some ⟨Q, 0, none⟩)))
    (hA : W.heap[A]? = some (scrBox c p k)) (hQ : W.cell? ⟨Q, 0, none⟩ = some (.int .i64 e)) (hR : R (.returned (.tuple #[scrVal c p k, .int .i64 e])) W) :
    bodyPostD Tryz.prog Tryz.f8 R Exit.ret { tmps := ts, defers := [{ target := .fn (.func 22) #[.pointer (some ⟨A, 0, none⟩), .pointer (some ⟨Q, 0, none⟩)], args := #[] }] } W := by
  unfold bodyPostD
  refine leaves_cons (f := 22) (args := #[.pointer (some ⟨A, 0, none⟩), .pointer (some ⟨Q, 0, none⟩)]) (by simp) (by simp [go_sem]) ?_
  refine (catch_idle ⟨A, 0, none⟩ ⟨Q, 0, none⟩ W).mono ?_
  rintro e' u' w'' ⟨rfl, rfl, rfl⟩
  exact ⟨_, res18 h2 h3 hA hQ, hR⟩
set_option maxHeartbeats 1000000 in
set_option maxRecDepth 100000 in
theorem dec_yes (l r : List Int) (s : ScrV) (w : World) (hz : ScrSz s) (hm : l.length ≤ 65536) (hl : BL l) (hn : dScr l = some (s, r)) : Calls Tryz.prog 8 #[.string (bs l)] w (DecodeRes l w) := by
  have hmf : ∀ (fn : Fn) (first cap : Array Value) (w : World), (Instr.makeFunc fn first cap).run Tryz.prog w = .ok (.func fn first cap) w := fun _ _ _ _ => rfl
  have hd : decide ((65536 : Int) < ((bs l).size : Int)) = false := by rw [bs_size]; simp; omega
  have HW := Lib.hid (decW_start w l)
  have HM := Lib.hid (And.intro hm (And.intro hl hn))
  clear hm hl hn
  go_enter_defers Tryz.func8, Tryz.ntmps8
  go_upto_region 5 with fail
  generalize ((w.alloc zeroScr).alloc (.cells #[.int .i64 0] 31)).alloc (.cells #[.string (bs l)] 73) = W1 at *
  have HR := Lib.hid (readScrFn (w.heap.size + 1 + 1) l W1 HW.out.s HM.out.2.1 HM.out.1)
  go_wp2_with fail
  refine HR.out.mono ?_
  rintro e w1 h1
  unfold ScrDec at h1
  rw [HM.out.2.2] at h1
  obtain ⟨lim, v8, v9, rfl, hv, hs, hg⟩ := h1
  obtain ⟨vals, p1, p2⟩ := hv.progs
  obtain ⟨A8, x8, rfl⟩ := own_slice p1
  obtain ⟨A9, x9, rfl⟩ := own_slice hv.picks
  clear p1 p2
  have hA : w1.heap[w.heap.size]? = some (scrBox cfg0 (.slice none 0 0) (.slice none 0 0)) := (hg.block _ (heap_lt HW.out.a) (by intro e; injection e; omega)).trans HW.out.a
  have hQ : w1.heap[w.heap.size + 1]? = some (.cells #[.int .i64 0] 31) := (hg.block _ (heap_lt HW.out.q) (by intro e; injection e; omega)).trans HW.out.q
  have hB : Below w.heap.size w w1 := HW.out.b.grown hg HW.out.b.size (by intro k e; injection e; omega)
  have hE : ElemT w1 w.heap.size 28 := ⟨_, hA⟩
  have hlt : w.heap.size < W1.heap.size := heap_lt HW.out.a
  obtain ⟨c0, c1, c2, c3, c4, c5, c6, c7, c8, c9⟩ := box_cell hA
  have z0 : w1.frozen? ⟨w.heap.size, 0, none⟩ = false := hE.frozen 0
  have z1 : w1.frozen? ⟨w.heap.size, 1, none⟩ = false := hE.frozen 1
  have z2 : w1.frozen? ⟨w.heap.size, 2, none⟩ = false := hE.frozen 2
  have z3 : w1.frozen? ⟨w.heap.size, 3, none⟩ = false := hE.frozen 3
  have z4 : w1.frozen? ⟨w.heap.size, 4, none⟩ = false := hE.frozen 4
  have z5 : w1.frozen? ⟨w.heap.size, 5, none⟩ = false := hE.frozen 5
  have z6 : w1.frozen? ⟨w.heap.size, 6, none⟩ = false := hE.frozen 6
  have z7 : w1.frozen? ⟨w.heap.size, 7, none⟩ = false := hE.frozen 7
  have z8 : w1.frozen? ⟨w.heap.size, 8, none⟩ = false := hE.frozen 8
  have z9 : w1.frozen? ⟨w.heap.size, 9, none⟩ = false := hE.frozen 9
  have HF : Hid (DecW2 w (scrSet w1 w.heap.size s.cfg (.slice A8 s.progs.length x8) (.slice A9 s.picks.length x9)) s (.slice A8 s.progs.length x8) (.slice A9 s.picks.length x9) r) := decW2_mk hA hQ hB hs hv hlt
  clear hA hQ hB hE hv hs hg hlt HW
  go_upto_region 6 with fail
  rw [show ((((((((((w1.setCell ⟨w.heap.size, 0, none⟩ (Value.int .i64 s.cfg.slots)).setCell ⟨w.heap.size, 1, none⟩ (Value.int .u64 s.cfg.gens)).setCell ⟨w.heap.size, 2, none⟩ (Value.int .i64 s.cfg.clients)).setCell ⟨w.heap.size, 3, none⟩ (Value.int .i64 s.cfg.readers)).setCell ⟨w.heap.size, 4, none⟩ (Value.int .i64 s.cfg.queue)).setCell ⟨w.heap.size, 5, none⟩ (Value.int .i64 s.cfg.batch)).setCell ⟨w.heap.size, 6, none⟩ (Value.int .i64 s.cfg.feed)).setCell ⟨w.heap.size, 7, none⟩ (Value.string s.cfg.text)).setCell ⟨w.heap.size, 8, none⟩ (.slice A8 s.progs.length x8)).setCell ⟨w.heap.size, 9, none⟩ (.slice A9 s.picks.length x9)) = scrSet w1 w.heap.size s.cfg (.slice A8 s.progs.length x8) (.slice A9 s.picks.length x9) from rfl]
  clear c0 c1 c2 c3 c4 c5 c6 c7 c8 c9 z0 z1 z2 z3 z4 z5 z6 z7 z8 z9
  generalize scrSet w1 w.heap.size s.cfg (.slice A8 s.progs.length x8) (.slice A9 s.picks.length x9) = W2 at *
  obtain ⟨Ap, cp, Ak, ck, hv8, hv9, hP, hK⟩ := HF.out.scr
  injection hv8 with e1 _ e2
  injection hv9 with e3 _ e4
  subst e1 e2 e3 e4
  have HPK := Lib.hid (And.intro hP hK)
  clear hP hK
  have hs := HF.out.str
  have hQ1 : W2.cell? ⟨w.heap.size + 1, 0, none⟩ = some (.int .i64 0) := by rw [cell_of_row _ _ 0 _ _ _ HF.out.q]; rfl
  have hQ2 : W2.frozen? ⟨w.heap.size + 1, 0, none⟩ = false := (show ElemT W2 (w.heap.size + 1) 31 from ⟨_, HF.out.q⟩).frozen 0
  obtain ⟨c0, c1, c2, c3, c4, c5, c6, c7, c8, c9⟩ := box_cell HF.out.a
  have z0 : W2.frozen? ⟨w.heap.size, 0, none⟩ = false := (show ElemT W2 w.heap.size 28 from ⟨_, HF.out.a⟩).frozen 0
  have z1 : W2.frozen? ⟨w.heap.size, 1, none⟩ = false := (show ElemT W2 w.heap.size 28 from ⟨_, HF.out.a⟩).frozen 1
  have z2 : W2.frozen? ⟨w.heap.size, 2, none⟩ = false := (show ElemT W2 w.heap.size 28 from ⟨_, HF.out.a⟩).frozen 2
  have z3 : W2.frozen? ⟨w.heap.size, 3, none⟩ = false := (show ElemT W2 w.heap.size 28 from ⟨_, HF.out.a⟩).frozen 3
  have z4 : W2.frozen? ⟨w.heap.size, 4, none⟩ = false := (show ElemT W2 w.heap.size 28 from ⟨_, HF.out.a⟩).frozen 4
  have z5 : W2.frozen? ⟨w.heap.size, 5, none⟩ = false := (show ElemT W2 w.heap.size 28 from ⟨_, HF.out.a⟩).frozen 5
  have z6 : W2.frozen? ⟨w.heap.size, 6, none⟩ = false := (show ElemT W2 w.heap.size 28 from ⟨_, HF.out.a⟩).frozen 6
  have z7 : W2.frozen? ⟨w.heap.size, 7, none⟩ = false := (show ElemT W2 w.heap.size 28 from ⟨_, HF.out.a⟩).frozen 7
  have z8 : W2.frozen? ⟨w.heap.size, 8, none⟩ = false := (show ElemT W2 w.heap.size 28 from ⟨_, HF.out.a⟩).frozen 8
  have z9 : W2.frozen? ⟨w.heap.size, 9, none⟩ = false := (show ElemT W2 w.heap.size 28 from ⟨_, HF.out.a⟩).frozen 9
  have hne : w.heap.size ≠ w.heap.size + 1 := by omega
  by_cases hr : r = []
  case neg =>
    have hbr : (bs r).toList.isEmpty = false := by
      revert hr
      cases r with
      | nil => intro h; exact absurd rfl h
      | cons x y => intro _; simp [bs]
    go_wp2
    rw [show ((((((((((W2.setCell ⟨w.heap.size, 0, none⟩ (.int .i64 0)).setCell ⟨w.heap.size, 1, none⟩ (.int .u64 0)).setCell ⟨w.heap.size, 2, none⟩ (.int .i64 0)).setCell ⟨w.heap.size, 3, none⟩ (.int .i64 0)).setCell ⟨w.heap.size, 4, none⟩ (.int .i64 0)).setCell ⟨w.heap.size, 5, none⟩ (.int .i64 0)).setCell ⟨w.heap.size, 6, none⟩ (.int .i64 0)).setCell ⟨w.heap.size, 7, none⟩ (.string ⟨#[]⟩)).setCell ⟨w.heap.size, 8, none⟩ (.slice none 0 0)).setCell ⟨w.heap.size, 9, none⟩ (.slice none 0 0)) = scrSet W2 w.heap.size cfg0 (.slice none 0 0) (.slice none 0 0) from rfl]
    refine leave_idle rfl rfl ((heap_setCell_other _ _ _ _ hne).trans (scrSet_a HF.out.a)) (World.cell?_setCell_same (u := .int .i64 0) _ _ _ ((World.cell?_of_block (a := ⟨w.heap.size + 1, 0, none⟩) (scrSet_o _ _ _ (by simp))).trans hQ1)) ⟨?_, .inr ⟨?_, ?_⟩⟩
    · exact (scrSet_b _ _ _ HF.out.b (Nat.le_refl _)).setCell (by simp) _
    · rintro ⟨s', y1, y2, y3⟩
      have := (dec_iff l HM.out.2.1 s').2 ⟨y1, y2, y3⟩
      rw [HM.out.2.2] at this
      obtain ⟨h1, _⟩ := this
      injection h1 with h1
      injection h1 with _ h1
      exact hr h1
    · unfold decErr; rw [if_neg (by have := HM.out.1; omega)]
  case pos =>
    subst hr
    have hbr : (bs []).toList.isEmpty = true := by decide +kernel
    have HCk := Lib.hid (scriptCheck s A8 A9 x8 x9 W2 hz HPK.out.1 HPK.out.2)
    go_wp2_with fail
    refine HCk.out.mono ?_
    rintro e w2 ⟨rfl, hw⟩
    have gA : w2.heap[w.heap.size]? = some (scrBox s.cfg (.slice A8 s.progs.length x8) (.slice A9 s.picks.length x9)) := (hw.block _ (heap_lt HF.out.a)).trans HF.out.a
    have gQ : w2.heap[w.heap.size + 1]? = some (.cells #[.int .i64 0] 31) := (hw.block _ (heap_lt HF.out.q)).trans HF.out.q
    have gB : Below w.heap.size w w2 := HF.out.b.trans (hw.mono HF.out.b.size)
    have gS : ScrAt w2 w2.heap.size (scrVal s.cfg (.slice A8 s.progs.length x8) (.slice A9 s.picks.length x9)) s := ⟨A8, x8, A9, x9, rfl, HPK.out.1.below hw hw.size, HPK.out.2.below hw hw.size⟩
    clear hw hs hQ1 hQ2 c0 c1 c2 c3 c4 c5 c6 c7 c8 c9 z0 z1 z2 z3 z4 z5 z6 z7 z8 z9 HCk HPK HF HR
    have hQ1 : w2.cell? ⟨w.heap.size + 1, 0, none⟩ = some (.int .i64 0) := by rw [cell_of_row _ _ 0 _ _ _ gQ]; rfl
    have hQ2 : w2.frozen? ⟨w.heap.size + 1, 0, none⟩ = false := (show ElemT w2 (w.heap.size + 1) 31 from ⟨_, gQ⟩).frozen 0
    obtain ⟨c0, c1, c2, c3, c4, c5, c6, c7, c8, c9⟩ := box_cell gA
    have z0 : w2.frozen? ⟨w.heap.size, 0, none⟩ = false := (show ElemT w2 w.heap.size 28 from ⟨_, gA⟩).frozen 0
    have z1 : w2.frozen? ⟨w.heap.size, 1, none⟩ = false := (show ElemT w2 w.heap.size 28 from ⟨_, gA⟩).frozen 1
    have z2 : w2.frozen? ⟨w.heap.size, 2, none⟩ = false := (show ElemT w2 w.heap.size 28 from ⟨_, gA⟩).frozen 2
    have z3 : w2.frozen? ⟨w.heap.size, 3, none⟩ = false := (show ElemT w2 w.heap.size 28 from ⟨_, gA⟩).frozen 3
    have z4 : w2.frozen? ⟨w.heap.size, 4, none⟩ = false := (show ElemT w2 w.heap.size 28 from ⟨_, gA⟩).frozen 4
    have z5 : w2.frozen? ⟨w.heap.size, 5, none⟩ = false := (show ElemT w2 w.heap.size 28 from ⟨_, gA⟩).frozen 5
    have z6 : w2.frozen? ⟨w.heap.size, 6, none⟩ = false := (show ElemT w2 w.heap.size 28 from ⟨_, gA⟩).frozen 6
    have z7 : w2.frozen? ⟨w.heap.size, 7, none⟩ = false := (show ElemT w2 w.heap.size 28 from ⟨_, gA⟩).frozen 7
    have z8 : w2.frozen? ⟨w.heap.size, 8, none⟩ = false := (show ElemT w2 w.heap.size 28 from ⟨_, gA⟩).frozen 8
    have z9 : w2.frozen? ⟨w.heap.size, 9, none⟩ = false := (show ElemT w2 w.heap.size 28 from ⟨_, gA⟩).frozen 9
    have HG := Lib.hid (And.intro gA (And.intro gQ (And.intro gB gS)))
    clear gA gQ gB gS
    by_cases hk : chkScr s = 0
    case neg =>
      have HN : Hid (¬ ∃ s', ScrOk s' ∧ ScrTy s' ∧ encScr s' = l) := by
        rintro ⟨s', y1, y2, y3⟩
        have h3 := (dec_iff l HM.out.2.1 s').2 ⟨y1, y2, y3⟩
        have h4 := h3.1
        rw [HM.out.2.2] at h4
        injection h4 with h4
        injection h4 with h4 _
        rw [← h4] at h3
        exact hk h3.2
      generalize chkScr s = kk at *
      have hkk : (kk != 0) = true := by simpa using hk
      clear hk
      go_wp2
      rw [show ((((((((((w2.setCell ⟨w.heap.size, 0, none⟩ (.int .i64 0)).setCell ⟨w.heap.size, 1, none⟩ (.int .u64 0)).setCell ⟨w.heap.size, 2, none⟩ (.int .i64 0)).setCell ⟨w.heap.size, 3, none⟩ (.int .i64 0)).setCell ⟨w.heap.size, 4, none⟩ (.int .i64 0)).setCell ⟨w.heap.size, 5, none⟩ (.int .i64 0)).setCell ⟨w.heap.size, 6, none⟩ (.int .i64 0)).setCell ⟨w.heap.size, 7, none⟩ (.string ⟨#[]⟩)).setCell ⟨w.heap.size, 8, none⟩ (.slice none 0 0)).setCell ⟨w.heap.size, 9, none⟩ (.slice none 0 0)) = scrSet w2 w.heap.size cfg0 (.slice none 0 0) (.slice none 0 0) from rfl]
      refine leave_idle rfl rfl ((heap_setCell_other _ _ _ _ hne).trans (scrSet_a HG.out.1)) (World.cell?_setCell_same (u := .int .i64 0) _ _ _ ((World.cell?_of_block (a := ⟨w.heap.size + 1, 0, none⟩) (scrSet_o _ _ _ (by simp))).trans hQ1)) ⟨?_, .inr ⟨?_, ?_⟩⟩
      · exact (scrSet_b _ _ _ HG.out.2.2.1 (Nat.le_refl _)).setCell (by simp) _
      · exact HN.out
      · unfold decErr; rw [if_neg (by have := HM.out.1; omega)]
    case pos =>
      rw [hk]
      have HK := Lib.hid hk
      clear hk
      go_wp2
      have gA := HG.out.1
      have gQ := HG.out.2.1
      rw [set_same gA (i := 0) (v := .int .i64 s.cfg.slots) rfl, set_same gA (i := 1) (v := .int .u64 s.cfg.gens) rfl, set_same gA (i := 2) (v := .int .i64 s.cfg.clients) rfl, set_same gA (i := 3) (v := .int .i64 s.cfg.readers) rfl, set_same gA (i := 4) (v := .int .i64 s.cfg.queue) rfl, set_same gA (i := 5) (v := .int .i64 s.cfg.batch) rfl, set_same gA (i := 6) (v := .int .i64 s.cfg.feed) rfl, set_same gA (i := 7) (v := .string s.cfg.text) rfl, set_same gA (i := 8) (v := .slice A8 s.progs.length x8) rfl, set_same gA (i := 9) (v := .slice A9 s.picks.length x9) rfl, set_same gQ (i := 0) (v := .int .i64 0) rfl]
      refine leave_idle rfl rfl gA hQ1 ⟨HG.out.2.2.1, .inl ⟨s, _, ?_, ?_, ?_, rfl, HG.out.2.2.2⟩⟩
      · exact ((dec_iff l HM.out.2.1 s).1 ⟨HM.out.2.2, HK.out⟩).1
      · exact ((dec_iff l HM.out.2.1 s).1 ⟨HM.out.2.2, HK.out⟩).2.1
      · exact ((dec_iff l HM.out.2.1 s).1 ⟨HM.out.2.2, HK.out⟩).2.2
end Go.Proofs.YtbjadgggpkbjmaaGreat
namespace Go.Proofs.YtbjadgggpkbjmaaGreat
open Go.RowKit
open Runes (bs bt)

theorem dOp_kind {o : OpV} {l r : List Int} (hl : BL l) (h : dOp l = some (o, r)) : 0 ≤ o.kind := by
  unfold dOp at h
  simp only [Option.bind_eq_some_iff] at h
  obtain ⟨⟨k, l1⟩, h1, h2⟩ := h
  obtain ⟨e1, v0, v1, b1⟩ := dNum_some hl h1
  dsimp only at h2
  split at h2
  · rename_i hk
    obtain ⟨e2, b2, _, t2, q2⟩ := dFs_some (fieldsOf k) (fun f hf => by have := (fieldsOf_bd k).2 f hf; unfold in5; omega) (fields_nodup k) b1 h2
    have q : o.kind = k := q2
    rw [q]; omega
  · cases h2
theorem dOps_kind (n : Nat) : ∀ {p : List OpV} {l r : List Int}, BL l → dOps n l = some (p, r) → ∀ o ∈ p, 0 ≤ o.kind := by
  induction n with
  | zero =>
    intro p l r hl h
    simp only [dOps, Option.some.injEq, Prod.mk.injEq] at h
    obtain ⟨rfl, rfl⟩ := h
    exact fun o ho => by cases ho
  | succ n ih =>
    intro p l r hl h
    simp only [dOps, Option.bind_eq_some_iff, Option.map_eq_some_iff] at h
    obtain ⟨⟨p1, l1⟩, h1, ⟨o, l2⟩, h2, h3⟩ := h
    simp only [Prod.mk.injEq] at h3
    obtain ⟨rfl, rfl⟩ := h3
    obtain ⟨e1, b1, n1, t1⟩ := dOps_some n hl h1
    intro q hq
    rcases List.mem_append.1 hq with hq | hq
    · exact ih hl h1 q hq
    · simp at hq; subst hq; exact dOp_kind b1 h2
theorem dProgs_kind (n : Nat) : ∀ {p : List (List OpV)} {l r : List Int}, BL l → dProgs n l = some (p, r) → ∀ q ∈ p, ∀ o ∈ q, 0 ≤ o.kind := by
  induction n with
  | zero =>
    intro p l r hl h
    simp only [dProgs, Option.some.injEq, Prod.mk.injEq] at h
    obtain ⟨rfl, rfl⟩ := h
    exact fun o ho => by cases ho
  | succ n ih =>
    intro p l r hl h
    simp only [dProgs, Option.bind_eq_some_iff, Option.map_eq_some_iff] at h
    obtain ⟨⟨p1, l1⟩, h1, ⟨v, l2⟩, h2, ⟨u, l3⟩, h3, h4⟩ := h
    simp only [Prod.mk.injEq] at h4
    obtain ⟨rfl, rfl⟩ := h4
    obtain ⟨e1, b1, n1, t1⟩ := dProgs_some n hl h1
    obtain ⟨e2, v0, v1, b2⟩ := dNum_some b1 h2
    intro q hq
    rcases List.mem_append.1 hq with hq | hq
    · exact ih hl h1 q hq
    · simp at hq; subst hq; exact dOps_kind _ b2 h3
theorem encOps_ge (p : List OpV) : p.length ≤ (encOps p).length := by
  induction p with
  | nil => simp
  | cons o p ih => simp only [encOps, List.flatMap_cons, List.length_append, encOp, num_len, List.length_cons] at *; omega
theorem encProgs_ge (ps : List (List OpV)) : ps.length ≤ (encProgs ps).length ∧ ∀ p ∈ ps, p.length ≤ (encProgs ps).length := by
  induction ps with
  | nil => exact ⟨by simp, fun p hp => by cases hp⟩
  | cons q ps ih =>
    have hq := encOps_ge q
    have e : (encProgs (q :: ps)).length = 2 + (encOps q).length + (encProgs ps).length := by simp [encProgs, encProg, num_len]; omega
    refine ⟨by rw [e]; simp only [List.length_cons]; omega, fun p hp => ?_⟩
    rw [e]
    rcases List.mem_cons.1 hp with rfl | hp
    · omega
    · have := ih.2 p hp; omega
theorem dScr_sz {s : ScrV} {l r : List Int} (hl : BL l) (hm : l.length ≤ 65536) (h : dScr l = some (s, r)) : ScrSz s := by
  obtain ⟨e, _, _, _⟩ := dScr_some hl h
  have hlen : (encScr s).length ≤ 65536 := by
    have : ((encScr s) ++ r).length = l.length := by rw [e]
    rw [List.length_append] at this; omega
  rw [encScr_len] at hlen
  obtain ⟨g1, g2⟩ := encProgs_ge s.progs
  refine ⟨by omega, by omega, fun p hp => by have := g2 p hp; omega, by omega, ?_⟩
  unfold dScr at h
  simp only [Option.bind_eq_some_iff, Option.map_eq_some_iff] at h
  obtain ⟨⟨c, l1⟩, h1, ⟨ps, l2⟩, h2, ⟨ks, l3⟩, h3, h4⟩ := h
  simp only [Prod.mk.injEq] at h4
  obtain ⟨rfl, rfl⟩ := h4
  exact dProgs_kind _ (dCfg_some hl h1).2.1 h2
/-- DECODE: the valid script with that encoding, or none. -/
theorem scriptDecode (l : List Int) (w : World) (hl : BL l) (hs : l.length ≤ 9223372036854775807) : Calls Tryz.prog 8 #[.string (bs l)] w (DecodeRes l w) := by
  by_cases hm : l.length ≤ 65536
  · cases hd : dScr l with
    | none => exact dec_form l w hm hl hd
    | some sr => obtain ⟨s, r⟩ := sr; exact dec_yes l r s w (dScr_sz hl hm hd) hm hl hd
  · exact dec_long l w hm hs
end Go.Proofs.YtbjadgggpkbjmaaGreat
