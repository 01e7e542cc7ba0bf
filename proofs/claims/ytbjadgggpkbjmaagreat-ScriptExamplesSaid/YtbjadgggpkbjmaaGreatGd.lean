/- Merged texts: R5b, R5c, R5d, R5e, RR1. -/
import Derived.Test.YtbjadgggpkbjmaaGreatGc
import Derived.Deep.AppendLies
import Derived.Deep.RegionLaw
import Derived.IntWalk
namespace Go.Proofs.YtbjadgggpkbjmaaGreat
open Go.RowKit


theorem ops_pushed {w0 W w1 : World} {B lim : Nat} {s : ByteArray} {cf : CfgV} {v8 v9 v7 v1 : Value} {ps : List (List OpV)} {ks : List Int} {xs : List OpV} {o : OpV} {O : Obj}
    (h : RdSt w0 W B s lim cf v8 v9 ps ks) (hc : CurRow W lim v7 xs) (hl : lim ≤ W.heap.size) (h4 : B + 1 + 1 + 1 + 1 ≤ lim)
    (hown : w1.ownsRow lim 40 7 v1 (xs.length + 1) ((xs.flatMap opCells) ++ opCells o)) (hg : (W.alloc O).grownBy w1 v7.ownBlock) :
    RdSt w0 w1 B s lim cf v8 v9 ps ks ∧ CurRow w1 lim v1 (xs ++ [o]) ∧ lim ≤ w1.heap.size := by
  have hca : CurRow (W.alloc O) lim v7 xs := World.ownsRow.alloc hc _
  have hs := hg.size
  refine ⟨(h.alloc O).other (Mild.grown hg fun q e => ⟨40, own_elem hca e, .inr ⟨rfl, (World.ownsRow.lt hca q e).1⟩⟩) fun q hq => hg.block q (by simp; omega) (fun e => ?_), ?_, by simp at hs; omega⟩
  · have := (World.ownsRow.lt hca q e.symm).1
    omega
  · show w1.ownsRow lim 40 7 v1 (xs ++ [o]).length ((xs ++ [o]).flatMap opCells)
    rw [List.length_append, List.flatMap_append, show [o].flatMap opCells = opCells o from by simp]
    exact hown

set_option maxHeartbeats 4000000 in
set_option maxRecDepth 100000 in
theorem opsLoop (w W : World) (B lim2 m : Nat) (sp : ByteArray) (cf : CfgV) (v8 : Value) (ps : List (List OpV))
    (c0 c1 c2 c3 c6 c9 c11 c12 c13 c14 c15 c16 c17 c18 c19 c20 c21 c22 c23 c24 c25 c26 c27 c28 c29 c30 c31 c32 c33 c34 c35 c36 c37 c38 c39 c40 c41 c42 c43 c44 c45 c46 c47 c48 c49 c50 c51 c52 c53 c54 c55 c56 c57 c58 c59 c60 c61 c62 c63 c64 c65 c66 c120 c121 c122 c123 c124 c125 c126 c127 c128 c129 c130 c131 c132 c133 c134 c135 c136 c137 c138 c139 c140 c141 c142 c143 c144 c145 c146 c147 : Value) (u8 u10 u69 u70 u71 u72 u73 u74 u75 u76 u77 u78 u79 u80 u81 u82 u83 u84 u85 u86 u87 u88 u89 u90 u91 u92 u93 u94 u95 u96 u97 u98 u99 u100 u101 u102 u103 u104 u105 u106 u107 u108 u109 u110 u111 u112 u113 u114 u115 u116 u117 u118 u119 : Value) (Q : Exit → Act → World → Prop)
    (hx : ∀ (v7 u8 u10 u69 u70 u71 u72 u73 u74 u75 u76 u77 u78 u79 u80 u81 u82 u83 u84 u85 u86 u87 u88 u89 u90 u91 u92 u93 u94 u95 u96 u97 u98 u99 u100 u101 u102 u103 u104 u105 u106 u107 u108 u109 u110 u111 u112 u113 u114 u115 u116 u117 u118 u119 : Value) (W' : World), Hid (RdSt w W' B (opsN sp m).2 lim2 cf v8 (.slice none 0 0) ps [] ∧ CurRow W' lim2 v7 (opsN sp m).1 ∧ lim2 ≤ W'.heap.size) → Q (.exit 2) ⟨List.toArray (c0 :: c1 :: c2 :: c3 :: (.pointer (some ⟨B + 1 + 1 + 1, 0, none⟩)) :: (.func (.func 11) #[] #[.pointer (some ⟨B + 1 + 1 + 1, 0, none⟩)]) :: c6 :: v7 :: u8 :: c9 :: u10 :: c11 :: c12 :: c13 :: c14 :: c15 :: c16 :: c17 :: c18 :: c19 :: c20 :: c21 :: c22 :: c23 :: c24 :: c25 :: c26 :: c27 :: c28 :: c29 :: c30 :: c31 :: c32 :: c33 :: c34 :: c35 :: c36 :: c37 :: c38 :: c39 :: c40 :: c41 :: c42 :: c43 :: c44 :: c45 :: c46 :: c47 :: c48 :: c49 :: c50 :: c51 :: c52 :: c53 :: c54 :: c55 :: c56 :: c57 :: c58 :: c59 :: c60 :: c61 :: c62 :: c63 :: c64 :: c65 :: c66 :: (.int .i64 m) :: (.int .i64 m) :: u69 :: u70 :: u71 :: u72 :: u73 :: u74 :: u75 :: u76 :: u77 :: u78 :: u79 :: u80 :: u81 :: u82 :: u83 :: u84 :: u85 :: u86 :: u87 :: u88 :: u89 :: u90 :: u91 :: u92 :: u93 :: u94 :: u95 :: u96 :: u97 :: u98 :: u99 :: u100 :: u101 :: u102 :: u103 :: u104 :: u105 :: u106 :: u107 :: u108 :: u109 :: u110 :: u111 :: u112 :: u113 :: u114 :: u115 :: u116 :: u117 :: u118 :: u119 :: c120 :: c121 :: c122 :: c123 :: c124 :: c125 :: c126 :: c127 :: c128 :: c129 :: c130 :: c131 :: c132 :: c133 :: c134 :: c135 :: c136 :: c137 :: c138 :: c139 :: c140 :: c141 :: c142 :: c143 :: c144 :: c145 :: c146 :: c147 :: []), []⟩ W')
    (HP : Hid (RdSt w W B sp lim2 cf v8 (.slice none 0 0) ps [])) (hl : lim2 ≤ W.heap.size) (HL4 : Hid (B + 1 + 1 + 1 + 1 ≤ lim2)) (hst : sp.size ≤ 3000) (hm8 : m < 8) :
    Code.wp Tryz.prog (Code.loop body12b) Q ⟨List.toArray (c0 :: c1 :: c2 :: c3 :: (.pointer (some ⟨B + 1 + 1 + 1, 0, none⟩)) :: (.func (.func 11) #[] #[.pointer (some ⟨B + 1 + 1 + 1, 0, none⟩)]) :: c6 :: (.slice none 0 0) :: u8 :: c9 :: u10 :: c11 :: c12 :: c13 :: c14 :: c15 :: c16 :: c17 :: c18 :: c19 :: c20 :: c21 :: c22 :: c23 :: c24 :: c25 :: c26 :: c27 :: c28 :: c29 :: c30 :: c31 :: c32 :: c33 :: c34 :: c35 :: c36 :: c37 :: c38 :: c39 :: c40 :: c41 :: c42 :: c43 :: c44 :: c45 :: c46 :: c47 :: c48 :: c49 :: c50 :: c51 :: c52 :: c53 :: c54 :: c55 :: c56 :: c57 :: c58 :: c59 :: c60 :: c61 :: c62 :: c63 :: c64 :: c65 :: c66 :: (.int .i64 m) :: (.int .i64 (0 : Int)) :: u69 :: u70 :: u71 :: u72 :: u73 :: u74 :: u75 :: u76 :: u77 :: u78 :: u79 :: u80 :: u81 :: u82 :: u83 :: u84 :: u85 :: u86 :: u87 :: u88 :: u89 :: u90 :: u91 :: u92 :: u93 :: u94 :: u95 :: u96 :: u97 :: u98 :: u99 :: u100 :: u101 :: u102 :: u103 :: u104 :: u105 :: u106 :: u107 :: u108 :: u109 :: u110 :: u111 :: u112 :: u113 :: u114 :: u115 :: u116 :: u117 :: u118 :: u119 :: c120 :: c121 :: c122 :: c123 :: c124 :: c125 :: c126 :: c127 :: c128 :: c129 :: c130 :: c131 :: c132 :: c133 :: c134 :: c135 :: c136 :: c137 :: c138 :: c139 :: c140 :: c141 :: c142 :: c143 :: c144 :: c145 :: c146 :: c147 :: []), []⟩ W := by
  have HX := Lib.hid hx
  clear hx
  conv => arg 2; arg 1; whnf
  go_loopw [7, 68] (fun v i wr => ∃ (j : Nat) (v7 : Value), j ≤ m ∧ v = v7 ∧ i = .int .i64 j ∧ Hid (RdSt w wr B (opsN sp j).2 lim2 cf v8 (.slice none 0 0) ps []) ∧ Hid (CurRow wr lim2 v7 (opsN sp j).1) ∧ lim2 ≤ wr.heap.size) (fun _ i _ => m - (intOf i).toNat)
  case atStart => exact ⟨0, _, Nat.zero_le _, rfl, rfl, HP.out, World.ownsRow_nil _ _ _ _, hl⟩
  case round =>
    obtain ⟨j, v7, hj, rfl, rfl, HQ, HC, hlw⟩ := hrel
    by_cases hjl : j < m
    · have hsj := Nat.le_trans (opsN_size sp j) hst
      clear HP HX hl
      have n9 := HQ.out.fn
      go_wp2_with fail
      refine (nextFn 16 B 9 (opsN sp j).2 _ HQ.out.str hsj (by omega) (by omega)).mono ?_
      rintro e w9 ⟨rfl, hb, hg⟩
      have b0 := Int.emod_nonneg (hd (opsN sp j).2) (show (16 : Int) ≠ 0 by omega)
      have b1 := Int.emod_lt_of_pos (hd (opsN sp j).2) (show (0 : Int) < 16 by omega)
      have HQ9 := Lib.hid (HQ.out.next hb hg)
      have HC9 := Lib.hid (HC.out.kept hg (fun q e hv => by injection e with e; subst e; exact (own_elem HC.out hv).ne HQ.out.str.elem (by decide) rfl))
      have hgs := hg.size
      clear n9 hb hg HQ HC
      have HRO : Hid (opsN sp (j + 1) = ((opsN sp j).1 ++ [(foldF (fieldsOf (1 + hd (opsN sp j).2 % 16)) (op0 (1 + hd (opsN sp j).2 % 16), tl (opsN sp j).2)).1], (foldF (fieldsOf (1 + hd (opsN sp j).2 % 16)) (op0 (1 + hd (opsN sp j).2 % 16), tl (opsN sp j).2)).2)) := by show _ = _; rfl
      have hstt : (tl (opsN sp j).2).size ≤ 3000 := by rw [tl_size]; omega
      have HLN := Lib.hid (opsN_len sp j)
      generalize hd (opsN sp j).2 % 16 = q9 at *
      generalize tl (opsN sp j).2 = st at *
      generalize (opsN sp j).1 = xs at *
      have hlw9 : lim2 ≤ w9.heap.size := Nat.le_trans hlw hgs
      clear hsj hgs hlw
      go_wp2_with fail
      refine (fieldsFn (1 + q9) _ (by omega) (by omega)).mono ?_
      rintro e w10 ⟨A, c, rfl, hu, hg⟩
      have HF := Lib.hid (fst_init (k := 1 + q9) HQ9.out HC9.out hlw9 HL4.out hu hg)
      clear HQ9 HC9 hu hg hlw9
      generalize 1 + q9 = kd at *
      have hfl := (fieldsOf_bd kd).1
      generalize hnf : (fieldsOf kd).length = nf at *
      have HNF := Lib.hid hnf
      clear hnf b0 b1
      generalize w9.heap.size = ob at *
      go_wp2_with fail
      refine fieldsLoop w _ B ob lim2 nf c A kd st cf v8 u7 ps xs _ _ _ _ _ _ _ _ _ _ _ _ _ _ _ _ _ _ _ _ _ _ _ _ _ _ _ _ _ _ _ _ _ _ _ _ _ _ _ _ _ _ _ _ _ _ _ _ _ _ _ _ _ _ _ _ _ _ _ _ _ _ _ _ _ _ _ _ _ _ _ _ _ _ _ _ _ _ _ _ _ _ _ _ _ _ _ _ _ _ _ _ _ _ _ _ _ _ _ _ _ _ _ _ _  _ _ _ _ _ _ _ _ _ _ _ _ _ _ _ _ _ _ _ _ _ _ _ _ _ _ _ _ _ _ _ _ _ _ _ _  _ ?_ HF hstt HNF
      clear HF
      rintro _ _ _ _ _ _ _ _ _ _ _ _ _ _ _ _ _ _ _ _ _ _ _ _ _ _ _ _ _ _ _ _ _ _ _ _  w11 HF
      generalize foldF (fieldsOf kd) (op0 kd, st) = y at *
      have n0 := HF.out.op.op.c0
      have n1 := HF.out.op.op.c1
      have n2 := HF.out.op.op.c2
      have n3 := HF.out.op.op.c3
      have n4 := HF.out.op.op.c4
      have n5 := HF.out.op.op.c5
      have n6 := HF.out.op.op.c6
      rw [Nat.zero_add] at n1 n2 n3 n4 n5 n6
      have HC := Lib.hid HF.out.cur
      have HRD := Lib.hid HF.out.rd
      have hl11 : lim2 ≤ w11.heap.size := by have h1 := HF.out.obl; have h2 := HF.out.op.elem.lt; omega
      obtain ⟨i0, hi, hz0, hz1, hz2⟩ := info_parts op_info
      have hxl : xs.length < 8 := by have := HLN.out; omega
      clear HF
      go_wp2_with (at_builtin; refine wpList_append_own _ rfl _ _ 41 rfl lim2 40 i0 (.agg #[.int .u8 0, .int .i64 0, .int .i64 0, .int .i64 0, .int .u32 0, .int .u8 0, .string ⟨#[]⟩]) 7 56 Tryz.underlying41 hi hz0 hz1 hz2 rfl (by decide) _ _ _ rfl (HC.out.alloc _) ⟨w11.heap.size, 0, none⟩ 1 1 (opCells y.1) rfl rfl (news_op _ _ _) (one_op _) ?c3 ?c4 ?c5 ?_)
      case c3 => unfold maxLen; omega
      case c4 => omega
      case c5 => simp; omega
      intro v' w12 hown hgrow _
      have HA := Lib.hid (ops_pushed HRD.out HC.out hl11 HL4.out hown hgrow)
      clear hown hgrow HRD HC
      go_wp2_with fail
      go_roundw
      case rel => exact ⟨j + 1, _, by omega, rfl, by go_num, by rw [HRO.out]; exact HA.out.1, by rw [HRO.out]; exact HA.out.2.1, HA.out.2.2⟩
      case measure => simp [intOf]; omega
    · obtain rfl : j = m := by omega
      go_wp2_with fail
      exact HX.out _ _ _ _ _ _ _ _ _ _ _ _ _ _ _ _ _ _ _ _ _ _ _ _ _ _ _ _ _ _ _ _ _ _ _ _ _ _ _ _ _ _ _ _ _ _ _ _ _ _ _ _ _ _ _ ⟨HQ.out, HC.out, hlw⟩
end Go.Proofs.YtbjadgggpkbjmaaGreat
namespace Go.Proofs.YtbjadgggpkbjmaaGreat
open Go.RowKit

theorem flat_get : ∀ (xs : List OpV) (j i : Nat), j < xs.length → i < 7 → (xs.flatMap opCells)[j * 7 + i]? = (opCells (xs.getD j noOp))[i]?
  | [], j, i, h, _ => absurd h (by simp)
  | x :: xs, 0, i, _, hi => by
    rw [List.flatMap_cons, List.getElem?_append_left (by simp [opCells]; omega)]
    simp
  | x :: xs, j + 1, i, h, hi => by
    rw [List.flatMap_cons, List.getElem?_append_right (by simp [opCells]; omega)]
    have e : (j + 1) * 7 + i - (opCells x).length = j * 7 + i := by simp [opCells]; omega
    rw [e, flat_get xs j i (by simp at h; omega) hi]
    simp
theorem opsIn_of_cur {W : World} {lim n c : Nat} {A : Option Addr} {xs : List OpV} (h : CurRow W lim (.slice A n c) xs) : n = xs.length ∧ OpsIn W W.heap.size A xs := by
  have hl : n = xs.length := by
    rcases h.2 with ⟨e, h2⟩ | ⟨g, cap, cur, e, _⟩
    · injection e with _ e _; omega
    · injection e
  refine ⟨hl, fun hx => ?_⟩
  obtain ⟨g, cap, hv, _, hlt⟩ := World.ownsRow.form h hx
  have hA : A = some ⟨g, 0, none⟩ := by injection hv
  subst hA
  refine ⟨g, 0, rfl, hlt, own_elem h rfl, fun j hj => ?_⟩
  have hc : ∀ i u, i < 7 → (opCells (xs.getD j noOp))[i]? = some u → W.cell? ⟨g, 0 + j * 7 + i, none⟩ = some u := by
    intro i u hi hu
    have := World.ownsRow.cells h (g := g) rfl (j * 7 + i) u (by rw [cur_flat, flat_get xs j i hj hi]; exact hu)
    rw [← this]
    unfold Addr.add
    by_cases h0 : j * 7 + i = 0
    · have : 0 + j * 7 + i = 0 := by omega
      simp [h0, this]
    · have : 0 + j * 7 + i = j * 7 + i := by omega
      rw [if_neg h0, this]; simp
  exact ⟨hc 0 _ (by omega) rfl, hc 1 _ (by omega) rfl, hc 2 _ (by omega) rfl, hc 3 _ (by omega) rfl, hc 4 _ (by omega) rfl, hc 5 _ (by omega) rfl, hc 6 _ (by omega) rfl⟩
theorem own_form {w : World} {base : Nat} {e : TypeId} {size n : Nat} {v : Value} {xs : List Value} (h : w.ownsRow base e size v n xs) : ∃ A c, v = .slice A n c := by
  rcases h.2 with ⟨rfl, rfl⟩ | ⟨g, cap, cur, rfl, _⟩
  · exact ⟨_, _, rfl⟩
  · exact ⟨_, _, rfl⟩
theorem news_val (W : World) (v : Value) (t : TypeId) : ∀ j u, ([v] : List Value)[j]? = some u → (W.alloc (.cells #[v] t)).cell? ((⟨W.heap.size, 0, none⟩ : Addr).add j) = some u := by
  intro j u hj
  match j, hj with
  | 0, hj => simp at hj; subst hj; simp [Addr.add]
theorem one_slice (A : Option Addr) (n c : Nat) : ∀ u ∈ ([Value.slice A n c] : List Value), u.oneCell' = true := by intro u hu; simp at hu; subst hu; rfl

theorem prog_pushed {w0 W w1 : World} {B lim lim' n c : Nat} {A : Option Addr} {s : ByteArray} {cf : CfgV} {v8 v9 v1 : Value} {ps : List (List OpV)} {ks : List Int} {xs : List OpV} {O : Obj} {vals : List Value}
    (h : RdSt w0 W B s lim cf v8 v9 ps ks) (hc : CurRow W lim' (.slice A n c) xs) (hl : lim ≤ W.heap.size) (h8 : W.ownsRow B 41 1 v8 ps.length vals) (hp : ProgVals W lim vals ps)
    (hown : w1.ownsRow B 41 1 v1 (ps.length + 1) (vals ++ [.slice A n c])) (hg : (W.alloc O).grownBy w1 v8.ownBlock) :
    w1.cell? ⟨B + 1 + 1, 8, none⟩ = some v8 ∧ w1.frozen? ⟨B + 1 + 1, 8, none⟩ = false ∧ RdSt w0 (w1.setCell ⟨B + 1 + 1, 8, none⟩ v1) B s W.heap.size cf v1 v9 (ps ++ [xs]) ks := by
  obtain ⟨rfl, hx⟩ := opsIn_of_cur hc
  have ha := h.alloc O
  have h3 := h.lt3
  have h8a : (W.alloc O).ownsRow B 41 1 v8 ps.length vals := World.ownsRow.alloc h8 _
  have hne : ∀ {q : Nat} {t : TypeId}, ElemT (W.alloc O) q t → t ≠ 41 → w1.heap[q]? = (W.alloc O).heap[q]? := fun {q t} ht hn => hg.block q ht.lt (fun e => absurd rfl (ht.ne (own_elem h8a e.symm) hn))
  have hk0 := hne ha.str.elem (by decide)
  have hk1 : w1.heap[B + 1]? = (W.alloc O).heap[B + 1]? := hne (t := 28) ⟨_, ha.res⟩ (by decide)
  have hk2 := hne ha.bld.t (by decide)
  have hk3 := hne ha.fnt (by decide)
  have hxa : OpsIn (W.alloc O) W.heap.size A xs := fun hpos => by
    obtain ⟨b, o, e, hb, ht, hcl⟩ := hx hpos
    have hkb : (W.alloc O).heap[b]? = W.heap[b]? := Below.heap_alloc _ _ _ ht.lt
    exact ⟨b, o, e, hb, ht.keep hkb, fun j hj => (hcl j hj).keep hkb⟩
  have hpa : ProgVals (W.alloc O) lim vals ps := hp.mild (Mild.alloc W O lim)
  have hb := Bld.push_prog ha.bld hl hxa vals hpa hown hg h8a
  refine ⟨(World.cell?_of_block (a := ⟨B + 1 + 1, 8, none⟩) hk2).trans ha.bld.c8, (ha.bld.t.keep hk2).frozen 8, ?_, ?_, hb, ?_, ?_⟩
  · exact (ha.str.grownN hk0).grownN (Below.heap_setCell _ _ _ _ (by show B ≠ B + 1 + 1; omega))
  · exact (Below.heap_setCell _ _ _ _ (by show B + 1 ≠ B + 1 + 1; omega)).trans (hk1.trans ha.res)
  · exact (Below.heap_setCell _ _ _ _ (by show B + 1 + 1 + 1 ≠ B + 1 + 1; omega)).trans (hk3.trans ha.fnb)
  · refine (ha.bel.trans ⟨hg.os, hg.tape, hg.output, hg.size, fun k hk => hg.block k (by simp; omega) (fun e => ?_)⟩).setCell (by show B ≤ B + 1 + 1; omega) _
    have := (World.ownsRow.lt h8a k e.symm).1
    omega

set_option maxHeartbeats 4000000 in
set_option maxRecDepth 100000 in
theorem clientsLoop (w W : World) (B cl : Nat) (s8 : ByteArray) (cf : CfgV)
    (c0 c1 c2 c6 c9 c11 c12 c13 c14 c15 c16 c17 c18 c19 c20 c21 c22 c23 c24 c25 c26 c27 c28 c29 c30 c31 c32 c33 c34 c35 c36 c37 c38 c39 c40 c41 c42 c43 c44 c45 c46 c47 c48 c49 c50 c51 c52 c53 c54 c55 c56 c57 c58 c59 c60 c61 c62 c127 c128 c129 c130 c131 c132 c133 c134 c135 c136 c137 c138 c139 c140 c141 c142 c143 c144 c145 c146 c147 : Value) (u7 u8 u10 u65 u66 u67 u68 u69 u70 u71 u72 u73 u74 u75 u76 u77 u78 u79 u80 u81 u82 u83 u84 u85 u86 u87 u88 u89 u90 u91 u92 u93 u94 u95 u96 u97 u98 u99 u100 u101 u102 u103 u104 u105 u106 u107 u108 u109 u110 u111 u112 u113 u114 u115 u116 u117 u118 u119 u120 u121 u122 u123 u124 u125 u126 : Value) (Q : Exit → Act → World → Prop)
    (hx : ∀ (v8 : Value) (lim : Nat) (u7 u8 u10 u65 u66 u67 u68 u69 u70 u71 u72 u73 u74 u75 u76 u77 u78 u79 u80 u81 u82 u83 u84 u85 u86 u87 u88 u89 u90 u91 u92 u93 u94 u95 u96 u97 u98 u99 u100 u101 u102 u103 u104 u105 u106 u107 u108 u109 u110 u111 u112 u113 u114 u115 u116 u117 u118 u119 u120 u121 u122 u123 u124 u125 u126 : Value) (W' : World), Hid (RdSt w W' B (progsN s8 cl).2 lim cf v8 (.slice none 0 0) (progsN s8 cl).1 []) → Q (.exit 0) ⟨List.toArray (c0 :: c1 :: c2 :: (.pointer (some ⟨B + 1 + 1, 0, none⟩)) :: (.pointer (some ⟨B + 1 + 1 + 1, 0, none⟩)) :: (.func (.func 11) #[] #[.pointer (some ⟨B + 1 + 1 + 1, 0, none⟩)]) :: c6 :: u7 :: u8 :: c9 :: u10 :: c11 :: c12 :: c13 :: c14 :: c15 :: c16 :: c17 :: c18 :: c19 :: c20 :: c21 :: c22 :: c23 :: c24 :: c25 :: c26 :: c27 :: c28 :: c29 :: c30 :: c31 :: c32 :: c33 :: c34 :: c35 :: c36 :: c37 :: c38 :: c39 :: c40 :: c41 :: c42 :: c43 :: c44 :: c45 :: c46 :: c47 :: c48 :: c49 :: c50 :: c51 :: c52 :: c53 :: c54 :: c55 :: c56 :: c57 :: c58 :: c59 :: c60 :: c61 :: c62 :: (.int .i64 cl) :: (.int .i64 cl) :: u65 :: u66 :: u67 :: u68 :: u69 :: u70 :: u71 :: u72 :: u73 :: u74 :: u75 :: u76 :: u77 :: u78 :: u79 :: u80 :: u81 :: u82 :: u83 :: u84 :: u85 :: u86 :: u87 :: u88 :: u89 :: u90 :: u91 :: u92 :: u93 :: u94 :: u95 :: u96 :: u97 :: u98 :: u99 :: u100 :: u101 :: u102 :: u103 :: u104 :: u105 :: u106 :: u107 :: u108 :: u109 :: u110 :: u111 :: u112 :: u113 :: u114 :: u115 :: u116 :: u117 :: u118 :: u119 :: u120 :: u121 :: u122 :: u123 :: u124 :: u125 :: u126 :: c127 :: c128 :: c129 :: c130 :: c131 :: c132 :: c133 :: c134 :: c135 :: c136 :: c137 :: c138 :: c139 :: c140 :: c141 :: c142 :: c143 :: c144 :: c145 :: c146 :: c147 :: []), []⟩ W')
    (HP : Hid (RdSt w W B s8 B cf (.slice none 0 0) (.slice none 0 0) [] [])) (hst : s8.size ≤ 3000) (hm4 : cl < 4) :
    Code.wp Tryz.prog (Code.loop body12a) Q ⟨List.toArray (c0 :: c1 :: c2 :: (.pointer (some ⟨B + 1 + 1, 0, none⟩)) :: (.pointer (some ⟨B + 1 + 1 + 1, 0, none⟩)) :: (.func (.func 11) #[] #[.pointer (some ⟨B + 1 + 1 + 1, 0, none⟩)]) :: c6 :: u7 :: u8 :: c9 :: u10 :: c11 :: c12 :: c13 :: c14 :: c15 :: c16 :: c17 :: c18 :: c19 :: c20 :: c21 :: c22 :: c23 :: c24 :: c25 :: c26 :: c27 :: c28 :: c29 :: c30 :: c31 :: c32 :: c33 :: c34 :: c35 :: c36 :: c37 :: c38 :: c39 :: c40 :: c41 :: c42 :: c43 :: c44 :: c45 :: c46 :: c47 :: c48 :: c49 :: c50 :: c51 :: c52 :: c53 :: c54 :: c55 :: c56 :: c57 :: c58 :: c59 :: c60 :: c61 :: c62 :: (.int .i64 cl) :: (.int .i64 (0 : Int)) :: u65 :: u66 :: u67 :: u68 :: u69 :: u70 :: u71 :: u72 :: u73 :: u74 :: u75 :: u76 :: u77 :: u78 :: u79 :: u80 :: u81 :: u82 :: u83 :: u84 :: u85 :: u86 :: u87 :: u88 :: u89 :: u90 :: u91 :: u92 :: u93 :: u94 :: u95 :: u96 :: u97 :: u98 :: u99 :: u100 :: u101 :: u102 :: u103 :: u104 :: u105 :: u106 :: u107 :: u108 :: u109 :: u110 :: u111 :: u112 :: u113 :: u114 :: u115 :: u116 :: u117 :: u118 :: u119 :: u120 :: u121 :: u122 :: u123 :: u124 :: u125 :: u126 :: c127 :: c128 :: c129 :: c130 :: c131 :: c132 :: c133 :: c134 :: c135 :: c136 :: c137 :: c138 :: c139 :: c140 :: c141 :: c142 :: c143 :: c144 :: c145 :: c146 :: c147 :: []), []⟩ W := by
  have HX := Lib.hid hx
  clear hx
  conv => arg 2; arg 1; whnf
  go_loopw [64] (fun i wr => ∃ k : Nat, k ≤ cl ∧ i = .int .i64 k ∧ Hid (∃ lim v8, lim ≤ wr.heap.size ∧ RdSt w wr B (progsN s8 k).2 lim cf v8 (.slice none 0 0) (progsN s8 k).1 [])) (fun i _ => cl - (intOf i).toNat)
  case atStart => exact ⟨0, Nat.zero_le _, rfl, B, _, by have := HP.out.lt3; omega, HP.out⟩
  case round =>
    obtain ⟨k, hk, rfl, HST⟩ := hrel
    by_cases hlt : k < cl
    · obtain ⟨lim, v8, hlim, hrd⟩ := HST.out
      have HP := Lib.hid hrd
      clear hrd HST HX
      have hsk := Nat.le_trans (progsN_size s8 k) hst
      have HPL := Lib.hid (progsN_len s8 k)
      have HPS : Hid (progsN s8 (k + 1) = ((progsN s8 k).1 ++ [(opsN (tl (progsN s8 k).2) (hd (progsN s8 k).2 % 8).toNat).1], (opsN (tl (progsN s8 k).2) (hd (progsN s8 k).2 % 8).toNat).2)) := by show _ = _; rfl
      have n8 := HP.out.fn
      go_wp2_with fail
      refine (nextFn 8 B 9 (progsN s8 k).2 _ HP.out.str hsk (by omega) (by omega)).mono ?_
      rintro e w8 ⟨rfl, hb, hg⟩
      have HP := Lib.hid (HP.out.next hb hg)
      have hgs := hg.size
      clear n8 hb hg
      have b0 := Int.emod_nonneg (hd (progsN s8 k).2) (show (8 : Int) ≠ 0 by omega)
      have b1 := Int.emod_lt_of_pos (hd (progsN s8 k).2) (show (0 : Int) < 8 by omega)
      have hsp : (tl (progsN s8 k).2).size ≤ 3000 := by rw [tl_size]; omega
      generalize hd (progsN s8 k).2 % 8 = qm at *
      obtain ⟨m, rfl⟩ := Int.eq_ofNat_of_zero_le b0
      rw [Int.toNat_natCast] at HPS
      have hm8 : m < 8 := by omega
      clear b0 b1 hsk
      generalize tl (progsN s8 k).2 = sp at *
      generalize (progsN s8 k).1 = ps at *
      have HL4 : Hid (B + 1 + 1 + 1 + 1 ≤ w8.heap.size) := HP.out.lt3
      have HLE : Hid (lim ≤ w8.heap.size) := by show lim ≤ w8.heap.size; omega
      have HP : Hid (RdSt w w8 B sp w8.heap.size cf v8 (.slice none 0 0) ps []) := HP.out.more HLE.out
      clear hgs hlim
      go_wp2_with fail
      refine opsLoop w w8 B w8.heap.size m sp cf v8 ps _ _ _ _ _ _ _ _ _ _ _ _ _ _ _ _ _ _ _ _ _ _ _ _ _ _ _ _ _ _ _ _ _ _ _ _ _ _ _ _ _ _ _ _ _ _ _ _ _ _ _ _ _ _ _ _ _ _ _ _ _ _ _ _ _ _ _ _ _ _ _ _ _ _ _ _ _ _ _ _ _ _ _ _ _ _ _ _ _ _  _ _ _ _ _ _ _ _ _ _ _ _ _ _ _ _ _ _ _ _ _ _ _ _ _ _ _ _ _ _ _ _ _ _ _ _ _ _ _ _ _ _ _ _ _ _ _ _ _ _ _ _ _  _ ?_ HP (Nat.le_refl _) HL4 hsp hm8
      clear HP
      rintro v7 _ _ _ _ _ _ _ _ _ _ _ _ _ _ _ _ _ _ _ _ _ _ _ _ _ _ _ _ _ _ _ _ _ _ _ _ _ _ _ _ _ _ _ _ _ _ _ _ _ _ _ _ _  w11 HR
      have hlw := HR.out.2.2
      have HC := Lib.hid HR.out.2.1
      replace HR := Lib.hid HR.out.1
      have n8 := HR.out.bld.c8
      obtain ⟨A, c, rfl⟩ := own_form HC.out
      obtain ⟨vals, h8, hp⟩ := HR.out.bld.progs
      have H8 := Lib.hid h8
      have HPV := Lib.hid hp
      clear h8 hp
      obtain ⟨i0, hi, hz0, hz1, hz2⟩ := info_parts slice_info
      have hpl : ps.length < 4 := by have := HPL.out; omega
      have hB11 : B ≤ w11.heap.size := by have := HR.out.lt3; omega
      generalize hnx : (opsN sp m).1.length = nx at *
      have HNX := Lib.hid hnx
      clear hnx
      go_wp2_with (at_builtin; refine wpList_append_own _ rfl _ _ 25 rfl B 41 i0 (.slice none 0 0) 1 24 Tryz.underlying25 hi hz0 hz1 hz2 rfl (by decide) _ _ _ rfl (H8.out.alloc _) ⟨w11.heap.size, 0, none⟩ 1 1 [.slice A nx c] rfl rfl (news_val _ _ _) (one_slice _ _ _) ?c3 ?c4 ?c5 ?_)
      case c3 => unfold maxLen; omega
      case c4 => omega
      case c5 => simp; omega
      intro v' w12 hown hgrow _
      obtain ⟨A', c', rfl⟩ := own_form hown
      have hgz : w11.heap.size ≤ w12.heap.size := by have := hgrow.size; simp at this; omega
      obtain ⟨q1, q2, q3⟩ := prog_pushed HR.out HC.out hlw H8.out HPV.out hown hgrow
      have HA := Lib.hid q3
      clear hown hgrow HR HC H8 HPV q3
      go_wp2_with fail
      go_roundw
      case rel => exact ⟨k + 1, by omega, by go_num, _, _, by simp; exact hgz, by rw [HPS.out]; exact HA.out⟩
      case measure => simp [intOf]; omega
    · obtain rfl : k = cl := by omega
      obtain ⟨lim, v8, hlim, hrd⟩ := HST.out
      go_wp2_with fail
      exact HX.out v8 lim _ _ _ _ _ _ _ _ _ _ _ _ _ _ _ _ _ _ _ _ _ _ _ _ _ _ _ _ _ _ _ _ _ _ _ _ _ _ _ _ _ _ _ _ _ _ _ _ _ _ _ _ _ _ _ _ _ _ _ _ _ _ _ _ _ _ (Lib.hid hrd)
end Go.Proofs.YtbjadgggpkbjmaaGreat
namespace Go.Proofs.YtbjadgggpkbjmaaGreat
open Go.RowKit

def loopsOf : Code → List Code
  | .loop c => [c]
  | .seq a b => loopsOf a ++ loopsOf b
  | .block _ c => loopsOf c
  | .scope c => loopsOf c
  | .cond _ a b => loopsOf a ++ loopsOf b
  | _ => []
noncomputable def body12d : Code := (((Tryz.f4.body.map loopsOf).getD [])[1]?).getD .skip
def OnlyExit (n : Nat) (R : Act → World → Prop) : Exit → Act → World → Prop
  | .exit m, a, w => m = n ∧ R a w
  | _, _, _ => False
theorem OnlyExit.use {n : Nat} {Q : Exit → Act → World → Prop} : ∀ e a w, OnlyExit n (Q (.exit n)) e a w → Q e a w := by
  intro e a w h
  cases e <;> first | exact h.elim | (obtain ⟨rfl, h⟩ := h; exact h)
theorem picksN_len (s : ByteArray) (c : Int) (k : Nat) : (picksN s c k).length = k := by simp [picksN]
theorem picksN_succ (s : ByteArray) (c : Int) (k : Nat) : picksN s c (k + 1) = picksN s c k ++ [hd (tlN s k) % (c + 1)] := by simp [picksN, List.range_succ]

theorem pick_pushed {w0 W w1 : World} {B lim : Nat} {s : ByteArray} {cf : CfgV} {v8 v9 v1 : Value} {ps : List (List OpV)} {ks : List Int} {x : Int} {O : Obj} {k : Nat}
    (h : RdSt w0 W B s lim cf v8 v9 ps ks) (hk : ks.length = k)
    (hown : w1.ownsRow B 3 1 v1 (k + 1) (ks.map (Value.int .i64) ++ [.int .i64 x])) (hg : (W.alloc O).grownBy w1 v9.ownBlock) :
    w1.cell? ⟨B + 1 + 1, 9, none⟩ = some v9 ∧ w1.frozen? ⟨B + 1 + 1, 9, none⟩ = false ∧ RdSt w0 (w1.setCell ⟨B + 1 + 1, 9, none⟩ v1) B s lim cf v8 v1 ps (ks ++ [x]) := by
  subst hk
  have ha := h.alloc O
  have h3 := h.lt3
  have h9a := ha.bld.picks
  have hne : ∀ {q : Nat} {t : TypeId}, ElemT (W.alloc O) q t → t ≠ 3 → w1.heap[q]? = (W.alloc O).heap[q]? := fun {q t} ht hn => hg.block q ht.lt (fun e => absurd rfl (ht.ne (own_elem h9a e.symm) hn))
  have hk0 := hne ha.str.elem (by decide)
  have hk1 : w1.heap[B + 1]? = (W.alloc O).heap[B + 1]? := hne (t := 28) ⟨_, ha.res⟩ (by decide)
  have hk2 := hne ha.bld.t (by decide)
  have hk3 := hne ha.fnt (by decide)
  have hb := Bld.push_pick ha.bld hown hg
  refine ⟨(World.cell?_of_block (a := ⟨B + 1 + 1, 9, none⟩) hk2).trans ha.bld.c9, (ha.bld.t.keep hk2).frozen 9, ?_, ?_, hb, ?_, ?_⟩
  · exact (ha.str.grownN hk0).grownN (Below.heap_setCell _ _ _ _ (by show B ≠ B + 1 + 1; omega))
  · exact (Below.heap_setCell _ _ _ _ (by show B + 1 ≠ B + 1 + 1; omega)).trans (hk1.trans ha.res)
  · exact (Below.heap_setCell _ _ _ _ (by show B + 1 + 1 + 1 ≠ B + 1 + 1; omega)).trans (hk3.trans ha.fnb)
  · refine (ha.bel.trans ⟨hg.os, hg.tape, hg.output, hg.size, fun k hk => hg.block k (by simp; omega) (fun e => ?_)⟩).setCell (by show B ≤ B + 1 + 1; omega) _
    have := (World.ownsRow.lt h9a k e.symm).1
    omega
theorem RdSt.drew {w0 W : World} {B lim : Nat} {s : ByteArray} {cf : CfgV} {v8 v9 : Value} {ps : List (List OpV)} {ks : List Int} (h : RdSt w0 W B s lim cf v8 v9 ps ks) : RdSt w0 W.drew B s lim cf v8 v9 ps ks :=
  h.other (Mild.drewN W 1 lim) fun _ _ => rfl
theorem news_one' (W : World) (x : Int) (t : TypeId) : ∀ j u, ([Value.int .i64 x] : List Value)[j]? = some u → (W.alloc (.cells #[.int .i64 x] t)).cell? ((⟨W.heap.size, 0, none⟩ : Addr).add j) = some u := news_val W _ t

set_option maxHeartbeats 4000000 in
set_option maxRecDepth 100000 in
theorem picksLoop (w W : World) (B cl lim : Nat) (rp : ByteArray) (cf : CfgV) (v8 : Value) (ps : List (List OpV))
    (c0 c2 c5 c7 c8 c9 c10 c11 c12 c13 c14 c15 c16 c17 c18 c19 c20 c21 c22 c23 c24 c25 c26 c27 c28 c29 c30 c31 c32 c33 c34 c35 c36 c37 c38 c39 c40 c41 c42 c43 c44 c45 c46 c47 c48 c49 c50 c51 c52 c53 c54 c55 c56 c57 c58 c59 c60 c61 c62 c63 c64 c65 c66 c67 c68 c69 c70 c71 c72 c73 c74 c75 c76 c77 c78 c79 c80 c81 c82 c83 c84 c85 c86 c87 c88 c89 c90 c91 c92 c93 c94 c95 c96 c97 c98 c99 c100 c101 c102 c103 c104 c105 c106 c107 c108 c109 c110 c111 c112 c113 c114 c115 c116 c117 c118 c119 c120 c121 c122 c123 c124 c125 c126 c147 : Value) (u127 u128 u129 u130 u131 u132 u133 u134 u135 u136 u137 u138 u139 u140 u141 u142 u143 u144 u145 u146 : Value) (Q : Exit → Act → World → Prop)
    (hx : ∀ (v9 : Value) (u127 u128 u129 u130 u131 u132 u133 u134 u135 u136 u137 u138 u139 u140 u141 u142 u143 u144 u145 u146 : Value) (W' : World), Hid (RdSt w W' B (tlN rp rp.size) lim cf v8 v9 ps (picksN rp cl rp.size)) → Q (.exit 7) ⟨List.toArray (c0 :: (.pointer (some ⟨B, 0, none⟩)) :: c2 :: (.pointer (some ⟨B + 1 + 1, 0, none⟩)) :: (.pointer (some ⟨B + 1 + 1 + 1, 0, none⟩)) :: c5 :: (.pointer (some ⟨B + 1 + 1, 0, none⟩)) :: c7 :: c8 :: c9 :: c10 :: c11 :: c12 :: c13 :: c14 :: c15 :: c16 :: c17 :: c18 :: c19 :: c20 :: c21 :: c22 :: c23 :: c24 :: c25 :: c26 :: c27 :: c28 :: c29 :: c30 :: c31 :: c32 :: c33 :: c34 :: c35 :: c36 :: c37 :: c38 :: c39 :: c40 :: c41 :: c42 :: c43 :: c44 :: c45 :: c46 :: c47 :: c48 :: c49 :: c50 :: c51 :: c52 :: c53 :: c54 :: c55 :: c56 :: c57 :: c58 :: c59 :: c60 :: c61 :: c62 :: c63 :: c64 :: c65 :: c66 :: c67 :: c68 :: c69 :: c70 :: c71 :: c72 :: c73 :: c74 :: c75 :: c76 :: c77 :: c78 :: c79 :: c80 :: c81 :: c82 :: c83 :: c84 :: c85 :: c86 :: c87 :: c88 :: c89 :: c90 :: c91 :: c92 :: c93 :: c94 :: c95 :: c96 :: c97 :: c98 :: c99 :: c100 :: c101 :: c102 :: c103 :: c104 :: c105 :: c106 :: c107 :: c108 :: c109 :: c110 :: c111 :: c112 :: c113 :: c114 :: c115 :: c116 :: c117 :: c118 :: c119 :: c120 :: c121 :: c122 :: c123 :: c124 :: c125 :: c126 :: u127 :: u128 :: u129 :: u130 :: u131 :: u132 :: u133 :: u134 :: u135 :: u136 :: u137 :: u138 :: u139 :: u140 :: u141 :: u142 :: u143 :: u144 :: u145 :: u146 :: c147 :: []), []⟩ W')
    (HP : Hid (RdSt w W B rp lim cf v8 (.slice none 0 0) ps [])) (hst : rp.size ≤ 3000) (hm4 : cl < 4) (HCC : Hid (cf.clients = cl)) :
    Code.wp Tryz.prog (Code.loop body12d) Q ⟨List.toArray (c0 :: (.pointer (some ⟨B, 0, none⟩)) :: c2 :: (.pointer (some ⟨B + 1 + 1, 0, none⟩)) :: (.pointer (some ⟨B + 1 + 1 + 1, 0, none⟩)) :: c5 :: (.pointer (some ⟨B + 1 + 1, 0, none⟩)) :: c7 :: c8 :: c9 :: c10 :: c11 :: c12 :: c13 :: c14 :: c15 :: c16 :: c17 :: c18 :: c19 :: c20 :: c21 :: c22 :: c23 :: c24 :: c25 :: c26 :: c27 :: c28 :: c29 :: c30 :: c31 :: c32 :: c33 :: c34 :: c35 :: c36 :: c37 :: c38 :: c39 :: c40 :: c41 :: c42 :: c43 :: c44 :: c45 :: c46 :: c47 :: c48 :: c49 :: c50 :: c51 :: c52 :: c53 :: c54 :: c55 :: c56 :: c57 :: c58 :: c59 :: c60 :: c61 :: c62 :: c63 :: c64 :: c65 :: c66 :: c67 :: c68 :: c69 :: c70 :: c71 :: c72 :: c73 :: c74 :: c75 :: c76 :: c77 :: c78 :: c79 :: c80 :: c81 :: c82 :: c83 :: c84 :: c85 :: c86 :: c87 :: c88 :: c89 :: c90 :: c91 :: c92 :: c93 :: c94 :: c95 :: c96 :: c97 :: c98 :: c99 :: c100 :: c101 :: c102 :: c103 :: c104 :: c105 :: c106 :: c107 :: c108 :: c109 :: c110 :: c111 :: c112 :: c113 :: c114 :: c115 :: c116 :: c117 :: c118 :: c119 :: c120 :: c121 :: c122 :: c123 :: c124 :: c125 :: c126 :: u127 :: u128 :: u129 :: u130 :: u131 :: u132 :: u133 :: u134 :: u135 :: u136 :: u137 :: u138 :: u139 :: u140 :: u141 :: u142 :: u143 :: u144 :: u145 :: u146 :: c147 :: []), []⟩ W := by
  have HX := Lib.hid hx
  clear hx
  refine wp_mono (Q := OnlyExit 7 (Q (.exit 7))) ?_ OnlyExit.use
  conv => arg 2; arg 1; whnf
  go_loopw [] (fun wr => Hid (∃ (k : Nat) (v9 : Value), k ≤ rp.size ∧ RdSt w wr B (tlN rp k) lim cf v8 v9 ps (picksN rp cl k))) (fun wr => match wr.cell? ⟨B, 0, none⟩ with | some (.string s) => s.size | _ => 0)
  case atStart => exact ⟨0, _, Nat.zero_le _, HP.out⟩
  case round =>
    clear HP
    obtain ⟨k, v9, hk, hrd⟩ := hrel.out
    have HP := Lib.hid hrd
    have hsz := tlN_size rp k
    have n1 := hrd.str.cell
    have n2 : wr.cell? ⟨B + 1 + 1, 2, none⟩ = some (.int .i64 cl) := by rw [← HCC.out]; exact hrd.bld.c2
    have HO := Lib.hid hrd.bld.picks
    obtain ⟨A9, c9, rfl⟩ := own_slice hrd.bld.picks
    rw [picksN_len] at *
    have n9 := HP.out.bld.c9
    have nf := HP.out.fn
    clear hrd hrel
    by_cases hlt : k < rp.size
    · have hse : (tlN rp k).toList.isEmpty = false := by rw [toList_empty, decide_eq_false_iff_not]; omega
      have hk2 : (k : Int) < 32768 := by omega
      clear HX
      have hw1 : IntKind.i64.wrap ((cl : Int) + 1) = (cl : Int) + 1 := IntWalk.i64_in _ (by omega)
      have hw2 : 0 ≤ (cl : Int) + 1 := by omega
      have HTL := Lib.hid (tlN_succ rp k)
      have HPK := Lib.hid (picksN_succ rp cl k)
      have HPL := Lib.hid (picksN_len rp cl k)
      have HPd := Lib.hid (HP.out.drew)
      have HNX := Lib.hid (nextFn ((cl : Int) + 1) B 9 (tlN rp k) wr.drew HPd.out.str (by omega) (by omega) (by omega))
      have hB : B ≤ wr.heap.size := by have := HP.out.lt3; omega
      obtain ⟨i0, hi, hz0, hz1, hz2⟩ := info_parts int_info
      generalize hd (tlN rp k) % ((cl : Int) + 1) = x at *
      generalize tl (tlN rp k) = s2 at *
      go_wp2_with fail
      go_region_law (first
        | (go_simp; go_at_call 10; refine HNX.out.mono ?_; rintro e w10 ⟨rfl, hb, hg⟩; (have HP1 := Lib.hid (HPd.out.next hb hg)); (have m9 := HP1.out.bld.c9); (have m2 : w10.cell? ⟨B + 1 + 1, 2, none⟩ = some (.int .i64 cl) := by rw [← HCC.out]; exact HP1.out.bld.c2); (have HO1 : Hid (w10.ownsRow B 3 1 (.slice A9 k c9) k ((picksN rp cl k).map (Value.int .i64))) := by have := HP1.out.bld.picks; rw [HPL.out] at this; exact this); (have m9a : (w10.alloc (Obj.cells #[Value.int IntKind.i64 x] 3)).cell? ⟨B + 1 + 1, 9, none⟩ = some (.slice A9 k c9) := (HP1.out.alloc _).bld.c9); (have hgz : wr.heap.size ≤ w10.heap.size := hg.size); clear hb hg)
        | (refine step_append_lies _ rfl (.tmp 136) (.tmp 144) 26 rfl B 3 i0 (.int .i64 0) 1 8 Tryz.underlying26 hi hz0 hz1 hz2 rfl (by decide) (.slice A9 k c9) k ((picksN rp cl k).map (Value.int .i64)) (by simp [Act.eval, Act.put]) (HO1.out.alloc _) _ 1 1 [.int .i64 x] (by simp [Act.eval, Act.put]) rfl (news_one' _ _ _) (one_one _) (by omega) (by unfold maxLen; omega) (by omega) (by simp; omega) _ rfl ?_; intro g cap w11 hown hgrow _ _; (obtain ⟨q1, q2, q3⟩ := pick_pushed HP1.out HPL.out hown hgrow); (have HA := Lib.hid q3); clear hown hgrow q3))
      all_goals
        go_wp2_with fail
        go_roundw
        case rel => exact ⟨k + 1, _, by omega, by rw [HTL.out, HPK.out]; exact HA.out⟩
        case measure =>
          rw [HA.out.str.cell, n1]
          show s2.size < (tlN rp k).size
          have := tlN_size rp (k + 1)
          rw [HTL.out] at this
          omega
    · obtain rfl : k = rp.size := by omega
      have hse : (tlN rp rp.size).toList.isEmpty = true := by rw [toList_empty, decide_eq_true_eq]; omega
      go_wp2_with fail
      exact ⟨rfl, HX.out _ _ _ _ _ _ _ _ _ _ _ _ _ _ _ _ _ _ _ _ _ _ HP⟩
end Go.Proofs.YtbjadgggpkbjmaaGreat
namespace Go.Proofs.YtbjadgggpkbjmaaGreat
open Go.RowKit

theorem HBP {B : Nat} : B < B + 1 + 1 + 1 + 1 := by omega

/-- A write into another script's block. -/
theorem Bld.but {w w' : World} {B xb lim q : Nat} {cfg : CfgV} {v8 v9 : Value} {ps : List (List OpV)} {ks : List Int} (h : Bld w B xb lim cfg v8 v9 ps ks) (hq : ElemT w q 28) (hne : q ≠ xb) (hg : w.grownBy w' (some q)) : Bld w' B xb lim cfg v8 v9 ps ks := by
  have hb : ∀ {b : Nat} {t : TypeId}, ElemT w b t → b ≠ q → w'.heap[b]? = w.heap[b]? := fun {b t} ht hn => hg.block b ht.lt (by intro e; injection e; contradiction)
  have hk := hb h.t (Ne.symm hne)
  have hc : ∀ i, w'.cell? ⟨xb, i, none⟩ = w.cell? ⟨xb, i, none⟩ := fun i => World.cell?_of_block (a := ⟨xb, i, none⟩) hk
  obtain ⟨vals, p1, p2⟩ := h.progs
  have own : ∀ {e : TypeId} {size n : Nat} {v : Value} {xs : List Value}, w.ownsRow B e size v n xs → e ≠ 28 → v.ownBlock = none ∨ v.ownBlock ≠ some q := fun {e size n v xs} ho he => by
    by_cases e2 : v.ownBlock = some q
    · exact absurd rfl ((own_elem ho e2).ne hq he)
    · exact .inr e2
  refine ⟨h.t.keep hk, h.hB, (hc _).trans h.c0, (hc _).trans h.c1, (hc _).trans h.c2, (hc _).trans h.c3, (hc _).trans h.c4, (hc _).trans h.c5, (hc _).trans h.c6, (hc _).trans h.c7, (hc _).trans h.c8, (hc _).trans h.c9,
    ⟨vals, p1.kept hg (own p1 (by decide)), p2.1, fun j hj => ?_⟩, h.picks.kept hg (own h.picks (by decide))⟩
  obtain ⟨A, c, q1, q2⟩ := p2.2 j hj
  refine ⟨A, c, q1, fun hx => ?_⟩
  obtain ⟨b, o, e, hlt, ht, hcl⟩ := q2 hx
  have hkb := hb ht (ht.ne hq (by decide))
  exact ⟨b, o, e, hlt, ht.keep hkb, fun j hj => (hcl j hj).keep hkb⟩
set_option maxHeartbeats 4000000 in
set_option maxRecDepth 100000 in
theorem read_prog (s : ByteArray) (w : World) (hs : s.size ≤ 3000) :
    Calls Tryz.prog 4 #[.string s] w fun e w' => ∃ v, e = .returned v ∧ ScrAt w' w'.heap.size v (readScr s) ∧ Below w.heap.size w w' := by
  have hmf : ∀ (fn : Fn) (first cap : Array Value) (w : World), (Instr.makeFunc fn first cap).run Tryz.prog w = .ok (.func fn first cap) w := fun _ _ _ _ => rfl
  have hsf := fun (a : Addr) (f : Fn) (c d : Array Value) (w : World) => run_store Tryz.prog w a (.func f c d) .plain rfl
  have HR := Lib.hid (rdst_init w s)
  have HSZ := Lib.hid (fun k => Nat.le_trans (Nat.le_of_eq (tlN_size s k)) (Nat.le_trans (Nat.sub_le _ _) hs))
  go_enter Tryz.func4, Tryz.ntmps4
  go_wp2_with fail
  generalize hB : w.heap.size = B at *
  have HBB := Lib.hid hB
  clear hB hsf hmf
  refine (nextFn 112 B 9 (tlN s 0) _ HR.out.str (HSZ.out 0) (by omega) (by omega)).mono ?_
  rintro e w0 ⟨rfl, hb, hg⟩

  replace HR : Hid (RdSt _ _ B (tlN s 1) _ _ _ _ _ _) := HR.out.next hb hg
  have c0 := HR.out.bld.c0
  have f0 := HR.out.frx 0
  have n0 := HR.out.fn
  have b00 := Int.emod_nonneg (hd (tlN s 0)) (show (112 : Int) ≠ 0 by omega)
  have b01 := Int.emod_lt_of_pos (hd (tlN s 0)) (show (0 : Int) < 112 by omega)
  clear hb hg
  generalize hq0 : hd (tlN s 0) % 112 = q0 at *
  have Q0 := Lib.hid hq0
  clear hq0
  replace HR := Lib.hid (HR.out.set0 (16 + q0))
  go_wp2_with fail
  refine (nextFn 8 B 9 (tlN s 1) _ HR.out.str (HSZ.out 1) (by omega) (by omega)).mono ?_
  rintro e w1 ⟨rfl, hb, hg⟩
  clear c0 f0 n0
  replace HR : Hid (RdSt _ _ B (tlN s 2) _ _ _ _ _ _) := HR.out.next hb hg
  have c1 := HR.out.bld.c1
  have f1 := HR.out.frx 1
  have n1 := HR.out.fn
  have b10 := Int.emod_nonneg (hd (tlN s 1)) (show (8 : Int) ≠ 0 by omega)
  have b11 := Int.emod_lt_of_pos (hd (tlN s 1)) (show (0 : Int) < 8 by omega)
  clear hb hg
  generalize hq1 : hd (tlN s 1) % 8 = q1 at *
  have Q1 := Lib.hid hq1
  clear hq1
  replace HR := Lib.hid (HR.out.set1 (1 + q1))
  go_wp2_with fail
  refine (nextFn 4 B 9 (tlN s 2) _ HR.out.str (HSZ.out 2) (by omega) (by omega)).mono ?_
  rintro e w2 ⟨rfl, hb, hg⟩
  clear c1 f1 n1
  replace HR : Hid (RdSt _ _ B (tlN s 3) _ _ _ _ _ _) := HR.out.next hb hg
  have c2 := HR.out.bld.c2
  have f2 := HR.out.frx 2
  have n2 := HR.out.fn
  have b20 := Int.emod_nonneg (hd (tlN s 2)) (show (4 : Int) ≠ 0 by omega)
  have b21 := Int.emod_lt_of_pos (hd (tlN s 2)) (show (0 : Int) < 4 by omega)
  clear hb hg
  generalize hq2 : hd (tlN s 2) % 4 = q2 at *
  have Q2 := Lib.hid hq2
  clear hq2
  replace HR := Lib.hid (HR.out.set2 (q2))
  go_wp2_with fail
  refine (nextFn 4 B 9 (tlN s 3) _ HR.out.str (HSZ.out 3) (by omega) (by omega)).mono ?_
  rintro e w3 ⟨rfl, hb, hg⟩
  clear c2 f2 n2
  replace HR : Hid (RdSt _ _ B (tlN s 4) _ _ _ _ _ _) := HR.out.next hb hg
  have c3 := HR.out.bld.c3
  have f3 := HR.out.frx 3
  have n3 := HR.out.fn
  have b30 := Int.emod_nonneg (hd (tlN s 3)) (show (4 : Int) ≠ 0 by omega)
  have b31 := Int.emod_lt_of_pos (hd (tlN s 3)) (show (0 : Int) < 4 by omega)
  clear hb hg
  generalize hq3 : hd (tlN s 3) % 4 = q3 at *
  have Q3 := Lib.hid hq3
  clear hq3
  replace HR := Lib.hid (HR.out.set3 (q3))
  go_wp2_with fail
  refine (nextFn 4 B 9 (tlN s 4) _ HR.out.str (HSZ.out 4) (by omega) (by omega)).mono ?_
  rintro e w4 ⟨rfl, hb, hg⟩
  clear c3 f3 n3
  replace HR : Hid (RdSt _ _ B (tlN s 5) _ _ _ _ _ _) := HR.out.next hb hg
  have c4 := HR.out.bld.c4
  have f4 := HR.out.frx 4
  have n4 := HR.out.fn
  have b40 := Int.emod_nonneg (hd (tlN s 4)) (show (4 : Int) ≠ 0 by omega)
  have b41 := Int.emod_lt_of_pos (hd (tlN s 4)) (show (0 : Int) < 4 by omega)
  clear hb hg
  generalize hq4 : hd (tlN s 4) % 4 = q4 at *
  have Q4 := Lib.hid hq4
  clear hq4
  replace HR := Lib.hid (HR.out.set4 (1 + q4))
  go_wp2_with fail
  refine (nextFn 4 B 9 (tlN s 5) _ HR.out.str (HSZ.out 5) (by omega) (by omega)).mono ?_
  rintro e w5 ⟨rfl, hb, hg⟩
  clear c4 f4 n4
  replace HR : Hid (RdSt _ _ B (tlN s 6) _ _ _ _ _ _) := HR.out.next hb hg
  have c5 := HR.out.bld.c5
  have f5 := HR.out.frx 5
  have n5 := HR.out.fn
  have b50 := Int.emod_nonneg (hd (tlN s 5)) (show (4 : Int) ≠ 0 by omega)
  have b51 := Int.emod_lt_of_pos (hd (tlN s 5)) (show (0 : Int) < 4 by omega)
  clear hb hg
  generalize hq5 : hd (tlN s 5) % 4 = q5 at *
  have Q5 := Lib.hid hq5
  clear hq5
  replace HR := Lib.hid (HR.out.set5 (1 + q5))
  go_wp2_with fail
  refine (nextFn 4 B 9 (tlN s 6) _ HR.out.str (HSZ.out 6) (by omega) (by omega)).mono ?_
  rintro e w6 ⟨rfl, hb, hg⟩
  clear c5 f5 n5
  replace HR : Hid (RdSt _ _ B (tlN s 7) _ _ _ _ _ _) := HR.out.next hb hg
  have c6 := HR.out.bld.c6
  have f6 := HR.out.frx 6
  have n6 := HR.out.fn
  have b60 := Int.emod_nonneg (hd (tlN s 6)) (show (4 : Int) ≠ 0 by omega)
  have b61 := Int.emod_lt_of_pos (hd (tlN s 6)) (show (0 : Int) < 4 by omega)
  clear hb hg
  generalize hq6 : hd (tlN s 6) % 4 = q6 at *
  have Q6 := Lib.hid hq6
  clear hq6
  replace HR := Lib.hid (HR.out.set6 (1 + q6))
  go_wp2_with fail
  refine (wordFn 32 B (B + 1 + 1 + 1) 9 (tlN s 7) _ HR.out.str HR.out.fn (by omega) (HSZ.out 7) (by omega) (by omega)).mono ?_
  rintro e w7 ⟨rfl, hb, hg⟩
  clear c6 f6 n6
  replace HR : Hid (RdSt _ _ B (restCfg s) _ _ _ _ _ _) := HR.out.next hb hg
  have c7 := HR.out.bld.c7
  have c2 := HR.out.bld.c2
  have f7 := HR.out.frx 7
  clear hb hg
  generalize hq7 : letT (tl (tlN s 7)) (hd (tlN s 7) % 32).toNat = tx at *
  have HTX := Lib.hid hq7
  clear hq7
  replace HR := Lib.hid (HR.out.set7 tx)
  obtain ⟨cf, HCF, HCC, HRc⟩ : ∃ cf, Hid (cf = readCfg s) ∧ Hid (cf.clients = q2) ∧ Hid (RdSt w (w7.setCell ⟨B + 1 + 1, 7, none⟩ (.string tx)) B (restCfg s) B cf (.slice none 0 0) (.slice none 0 0) [] []) := by
    refine ⟨_, ?_, ?_, HR.out⟩
    · have e0 := Q0.out
      have e1 := Q1.out
      have e2 := Q2.out
      have e3 := Q3.out
      have e4 := Q4.out
      have e5 := Q5.out
      have e6 := Q6.out
      have e7 := HTX.out
      subst e0 e1 e2 e3 e4 e5 e6
      subst e7
      rfl
    · rfl
  clear HR
  have HS8 : Hid ((restCfg s).size ≤ 3000) := by
    show (restCfg s).size ≤ 3000
    unfold restCfg
    rw [tlN_size, tl_size, tlN_size]; omega
  have HRS : Hid (readScr s = ⟨readCfg s, (progsN (restCfg s) q2.toNat).1, picksN (progsN (restCfg s) q2.toNat).2 q2 (progsN (restCfg s) q2.toNat).2.size⟩) := by
    have e2 := Q2.out
    subst e2
    exact rfl
  obtain ⟨cl, rfl⟩ := Int.eq_ofNat_of_zero_le b20
  rw [Int.toNat_natCast] at HRS
  have hcl : cl < 4 := by omega
  generalize restCfg s = s8 at *
  clear b00 b01 b10 b11 b20 b21 b30 b31 b40 b41 b50 b51 b60 b61 Q0 Q1 Q2 Q3 Q4 Q5 Q6 HTX HSZ hs
  go_wp2_with fail
  refine clientsLoop w _ B cl s8 cf _ _ _ _ _ _ _ _ _ _ _ _ _ _ _ _ _ _ _ _ _ _ _ _ _ _ _ _ _ _ _ _ _ _ _ _ _ _ _ _ _ _ _ _ _ _ _ _ _ _ _ _ _ _ _ _ _ _ _ _ _ _ _ _ _ _ _ _ _ _ _ _ _ _ _ _ _ _  _ _ _ _ _ _ _ _ _ _ _ _ _ _ _ _ _ _ _ _ _ _ _ _ _ _ _ _ _ _ _ _ _ _ _ _ _ _ _ _ _ _ _ _ _ _ _ _ _ _ _ _ _ _ _ _ _ _ _ _ _ _ _ _ _  _ ?_ HRc HS8.out hcl
  clear HRc c7 c2 f7
  rintro v8 lim _ _ _ _ _ _ _ _ _ _ _ _ _ _ _ _ _ _ _ _ _ _ _ _ _ _ _ _ _ _ _ _ _ _ _ _ _ _ _ _ _ _ _ _ _ _ _ _ _ _ _ _ _ _ _ _ _ _ _ _ _ _ _ _ _  w11 HR
  have HRP : Hid ((progsN s8 cl).2.size ≤ 3000) := Nat.le_trans (progsN_size s8 cl) HS8.out
  generalize (progsN s8 cl).2 = rp at *
  generalize (progsN s8 cl).1 = ps at *
  go_wp2_with fail
  refine picksLoop w w11 B cl lim rp cf v8 ps _ _ _ _ _ _ _ _ _ _ _ _ _ _ _ _ _ _ _ _ _ _ _ _ _ _ _ _ _ _ _ _ _ _ _ _ _ _ _ _ _ _ _ _ _ _ _ _ _ _ _ _ _ _ _ _ _ _ _ _ _ _ _ _ _ _ _ _ _ _ _ _ _ _ _ _ _ _ _ _ _ _ _ _ _ _ _ _ _ _ _ _ _ _ _ _ _ _ _ _ _ _ _ _ _ _ _ _ _ _ _ _ _ _ _ _ _ _ _ _ _ _ _ _  _ _ _ _ _ _ _ _ _ _ _ _ _ _ _ _ _ _ _ _  _ ?_ HR HRP.out hcl HCC
  clear HR
  rintro v9 _ _ _ _ _ _ _ _ _ _ _ _ _ _ _ _ _ _ _ _  w12 HR
  have HPI := Lib.hid HR.out.bld.picks
  have HPG := Lib.hid HR.out.bld.progs
  obtain ⟨A8, x8, rfl⟩ := own_slice (Classical.choose_spec HPG.out).1
  obtain ⟨A9, x9, rfl⟩ := own_slice HPI.out
  have n0 := HR.out.bld.c0
  have n1 := HR.out.bld.c1
  have n2 := HR.out.bld.c2
  have n3 := HR.out.bld.c3
  have n4 := HR.out.bld.c4
  have n5 := HR.out.bld.c5
  have n6 := HR.out.bld.c6
  have n7 := HR.out.bld.c7
  have n8 := HR.out.bld.c8
  have n9 := HR.out.bld.c9
  have r0 : w12.cell? ⟨B + 1, 0, none⟩ = some (.int .i64 0) := by rw [cell_of_row _ _ 0 _ _ _ HR.out.res]; rfl
  have z0 : w12.frozen? ⟨B + 1, 0, none⟩ = false := (show ElemT w12 (B + 1) 28 from ⟨_, HR.out.res⟩).frozen 0
  have r1 : w12.cell? ⟨B + 1, 1, none⟩ = some (.int .u64 0) := by rw [cell_of_row _ _ 1 _ _ _ HR.out.res]; rfl
  have z1 : w12.frozen? ⟨B + 1, 1, none⟩ = false := (show ElemT w12 (B + 1) 28 from ⟨_, HR.out.res⟩).frozen 1
  have r2 : w12.cell? ⟨B + 1, 2, none⟩ = some (.int .i64 0) := by rw [cell_of_row _ _ 2 _ _ _ HR.out.res]; rfl
  have z2 : w12.frozen? ⟨B + 1, 2, none⟩ = false := (show ElemT w12 (B + 1) 28 from ⟨_, HR.out.res⟩).frozen 2
  have r3 : w12.cell? ⟨B + 1, 3, none⟩ = some (.int .i64 0) := by rw [cell_of_row _ _ 3 _ _ _ HR.out.res]; rfl
  have z3 : w12.frozen? ⟨B + 1, 3, none⟩ = false := (show ElemT w12 (B + 1) 28 from ⟨_, HR.out.res⟩).frozen 3
  have r4 : w12.cell? ⟨B + 1, 4, none⟩ = some (.int .i64 0) := by rw [cell_of_row _ _ 4 _ _ _ HR.out.res]; rfl
  have z4 : w12.frozen? ⟨B + 1, 4, none⟩ = false := (show ElemT w12 (B + 1) 28 from ⟨_, HR.out.res⟩).frozen 4
  have r5 : w12.cell? ⟨B + 1, 5, none⟩ = some (.int .i64 0) := by rw [cell_of_row _ _ 5 _ _ _ HR.out.res]; rfl
  have z5 : w12.frozen? ⟨B + 1, 5, none⟩ = false := (show ElemT w12 (B + 1) 28 from ⟨_, HR.out.res⟩).frozen 5
  have r6 : w12.cell? ⟨B + 1, 6, none⟩ = some (.int .i64 0) := by rw [cell_of_row _ _ 6 _ _ _ HR.out.res]; rfl
  have z6 : w12.frozen? ⟨B + 1, 6, none⟩ = false := (show ElemT w12 (B + 1) 28 from ⟨_, HR.out.res⟩).frozen 6
  have r7 : w12.cell? ⟨B + 1, 7, none⟩ = some (.string ⟨#[]⟩) := by rw [cell_of_row _ _ 7 _ _ _ HR.out.res]; rfl
  have z7 : w12.frozen? ⟨B + 1, 7, none⟩ = false := (show ElemT w12 (B + 1) 28 from ⟨_, HR.out.res⟩).frozen 7
  have r8 : w12.cell? ⟨B + 1, 8, none⟩ = some (.slice none 0 0) := by rw [cell_of_row _ _ 8 _ _ _ HR.out.res]; rfl
  have z8 : w12.frozen? ⟨B + 1, 8, none⟩ = false := (show ElemT w12 (B + 1) 28 from ⟨_, HR.out.res⟩).frozen 8
  have r9 : w12.cell? ⟨B + 1, 9, none⟩ = some (.slice none 0 0) := by rw [cell_of_row _ _ 9 _ _ _ HR.out.res]; rfl
  have z9 : w12.frozen? ⟨B + 1, 9, none⟩ = false := (show ElemT w12 (B + 1) 28 from ⟨_, HR.out.res⟩).frozen 9
  go_wp2_with fail
  refine bodyPost_ret (v := scrVal cf (.slice A8 ps.length x8) (.slice A9 (picksN rp cl rp.size).length x9)) (by simp [results, Tryz.results4, go_sem, r0, r1, r2, r3, r4, r5, r6, r7, r8, r9]) rfl ⟨_, rfl, ?_, ?_⟩
  · rw [HRS.out, ← HCF.out]
    have ht : ElemT w12 (B + 1) 28 := ⟨_, HR.out.res⟩
    have hne : B + 1 ≠ B + 1 + 1 := by omega
    with_reducible refine (HR.out.bld.but (q := B + 1) ht hne ?c1).scr
    case c1 =>
      iterate 9 with_reducible refine grown_trans ?_ (set_grown _ _ _ _)
      with_reducible exact set_grown _ _ _ _
  · rw [HBB.out]
    have hbel := HR.out.bel
    iterate 10 with_reducible refine Below.setCell ?_ (by show B ≤ B + 1; omega) _
    exact hbel
end Go.Proofs.YtbjadgggpkbjmaaGreat
namespace Go.Proofs.YtbjadgggpkbjmaaGreat
open Go.RowKit

/-- The reference's Read, in the middle of its work: the result's block B, the reader's B + 1, the script's B + 1 + 1. -/
structure RrSt (w0 W : World) (B : Nat) (s : ByteArray) (lim : Nat) (cfg : CfgV) (v8 v9 : Value) (ps : List (List OpV)) (ks : List Int) : Prop where
  str : StrBox W (B + 1) 56 s
  res : W.heap[B]? = some zeroScr
  bld : Bld W B (B + 1 + 1) lim cfg v8 v9 ps ks
  bel : Below B w0 W
section
variable {w0 W W' : World} {B lim : Nat} {s s' : ByteArray} {cfg : CfgV} {v8 v9 : Value} {ps : List (List OpV)} {ks : List Int}
theorem RrSt.lt2 (h : RrSt w0 W B s lim cfg v8 v9 ps ks) : B + 1 + 1 < W.heap.size := h.bld.t.lt
theorem RrSt.next (h : RrSt w0 W B s lim cfg v8 v9 ps ks) (hs : StrBox W' (B + 1) 56 s') (hg : W.grownBy W' (some (B + 1))) : RrSt w0 W' B s' lim cfg v8 v9 ps ks := by
  have h3 := h.lt2
  exact ⟨hs, (hg.block B (by omega) (by intro e; injection e; omega)).trans h.res, h.bld.mild (Mild.grown hg fun q e => by injection e with e; subst e; exact ⟨56, h.str.elem, .inl (by decide)⟩),
    h.bel.trans ⟨hg.os, hg.tape, hg.output, hg.size, fun k hk => hg.block k (by omega) (by intro e; injection e; omega)⟩⟩
theorem RrSt.other (h : RrSt w0 W B s lim cfg v8 v9 ps ks) (hm : Mild W W' lim) (hk : ∀ q, q < B + 1 + 1 + 1 → W'.heap[q]? = W.heap[q]?) : RrSt w0 W' B s lim cfg v8 v9 ps ks :=
  ⟨h.str.grownN (hk (B + 1) (by omega)), (hk _ (by omega)).trans h.res, h.bld.mild hm, h.bel.trans ⟨hm.1, hm.2.1, hm.2.2.1, hm.2.2.2.1, fun k hk' => hk k (by omega)⟩⟩
theorem RrSt.alloc (h : RrSt w0 W B s lim cfg v8 v9 ps ks) (o : Obj) : RrSt w0 (W.alloc o) B s lim cfg v8 v9 ps ks := by
  have h3 := h.lt2
  exact h.other (Mild.alloc _ _ _) fun q hq => Below.heap_alloc _ _ _ (by omega)
theorem RrSt.drew (h : RrSt w0 W B s lim cfg v8 v9 ps ks) : RrSt w0 W.drew B s lim cfg v8 v9 ps ks := h.other (Mild.drewN W 1 lim) fun _ _ => rfl
theorem RrSt.more {lim' : Nat} (h : RrSt w0 W B s lim cfg v8 v9 ps ks) (hl : lim ≤ lim') : RrSt w0 W B s lim' cfg v8 v9 ps ks := ⟨h.str, h.res, h.bld.more hl, h.bel⟩
theorem RrSt.frx (h : RrSt w0 W B s lim cfg v8 v9 ps ks) (i : Nat) : W.frozen? ⟨B + 1 + 1, i, none⟩ = false := h.bld.t.frozen i
theorem RrSt.set0 (h : RrSt w0 W B s lim cfg v8 v9 ps ks) (x : Int) : RrSt w0 (W.setCell ⟨B + 1 + 1, 0, none⟩ (.int .i64 x)) B s lim { cfg with slots := x } v8 v9 ps ks :=
  ⟨h.str.grownN (Below.heap_setCell _ _ _ _ (by show B + 1 ≠ B + 1 + 1; omega)), (Below.heap_setCell _ _ _ _ (by show B ≠ B + 1 + 1; omega)).trans h.res, h.bld.set0 x, h.bel.setCell (by show B ≤ B + 1 + 1; omega) _⟩
theorem RrSt.set1 (h : RrSt w0 W B s lim cfg v8 v9 ps ks) (x : Int) : RrSt w0 (W.setCell ⟨B + 1 + 1, 1, none⟩ (.int .u64 x)) B s lim { cfg with gens := x } v8 v9 ps ks :=
  ⟨h.str.grownN (Below.heap_setCell _ _ _ _ (by show B + 1 ≠ B + 1 + 1; omega)), (Below.heap_setCell _ _ _ _ (by show B ≠ B + 1 + 1; omega)).trans h.res, h.bld.set1 x, h.bel.setCell (by show B ≤ B + 1 + 1; omega) _⟩
theorem RrSt.set2 (h : RrSt w0 W B s lim cfg v8 v9 ps ks) (x : Int) : RrSt w0 (W.setCell ⟨B + 1 + 1, 2, none⟩ (.int .i64 x)) B s lim { cfg with clients := x } v8 v9 ps ks :=
  ⟨h.str.grownN (Below.heap_setCell _ _ _ _ (by show B + 1 ≠ B + 1 + 1; omega)), (Below.heap_setCell _ _ _ _ (by show B ≠ B + 1 + 1; omega)).trans h.res, h.bld.set2 x, h.bel.setCell (by show B ≤ B + 1 + 1; omega) _⟩
theorem RrSt.set3 (h : RrSt w0 W B s lim cfg v8 v9 ps ks) (x : Int) : RrSt w0 (W.setCell ⟨B + 1 + 1, 3, none⟩ (.int .i64 x)) B s lim { cfg with readers := x } v8 v9 ps ks :=
  ⟨h.str.grownN (Below.heap_setCell _ _ _ _ (by show B + 1 ≠ B + 1 + 1; omega)), (Below.heap_setCell _ _ _ _ (by show B ≠ B + 1 + 1; omega)).trans h.res, h.bld.set3 x, h.bel.setCell (by show B ≤ B + 1 + 1; omega) _⟩
theorem RrSt.set4 (h : RrSt w0 W B s lim cfg v8 v9 ps ks) (x : Int) : RrSt w0 (W.setCell ⟨B + 1 + 1, 4, none⟩ (.int .i64 x)) B s lim { cfg with queue := x } v8 v9 ps ks :=
  ⟨h.str.grownN (Below.heap_setCell _ _ _ _ (by show B + 1 ≠ B + 1 + 1; omega)), (Below.heap_setCell _ _ _ _ (by show B ≠ B + 1 + 1; omega)).trans h.res, h.bld.set4 x, h.bel.setCell (by show B ≤ B + 1 + 1; omega) _⟩
theorem RrSt.set5 (h : RrSt w0 W B s lim cfg v8 v9 ps ks) (x : Int) : RrSt w0 (W.setCell ⟨B + 1 + 1, 5, none⟩ (.int .i64 x)) B s lim { cfg with batch := x } v8 v9 ps ks :=
  ⟨h.str.grownN (Below.heap_setCell _ _ _ _ (by show B + 1 ≠ B + 1 + 1; omega)), (Below.heap_setCell _ _ _ _ (by show B ≠ B + 1 + 1; omega)).trans h.res, h.bld.set5 x, h.bel.setCell (by show B ≤ B + 1 + 1; omega) _⟩
theorem RrSt.set6 (h : RrSt w0 W B s lim cfg v8 v9 ps ks) (x : Int) : RrSt w0 (W.setCell ⟨B + 1 + 1, 6, none⟩ (.int .i64 x)) B s lim { cfg with feed := x } v8 v9 ps ks :=
  ⟨h.str.grownN (Below.heap_setCell _ _ _ _ (by show B + 1 ≠ B + 1 + 1; omega)), (Below.heap_setCell _ _ _ _ (by show B ≠ B + 1 + 1; omega)).trans h.res, h.bld.set6 x, h.bel.setCell (by show B ≤ B + 1 + 1; omega) _⟩
theorem RrSt.set7 (h : RrSt w0 W B s lim cfg v8 v9 ps ks) (x : ByteArray) : RrSt w0 (W.setCell ⟨B + 1 + 1, 7, none⟩ (.string x)) B s lim { cfg with text := x } v8 v9 ps ks :=
  ⟨h.str.grownN (Below.heap_setCell _ _ _ _ (by show B + 1 ≠ B + 1 + 1; omega)), (Below.heap_setCell _ _ _ _ (by show B ≠ B + 1 + 1; omega)).trans h.res, h.bld.set7 x, h.bel.setCell (by show B ≤ B + 1 + 1; omega) _⟩
end
theorem rrst_init (w : World) (s : ByteArray) :
    RrSt w (((w.alloc zeroScr).alloc (.cells #[.string s, .bool false] 56)).alloc zeroScr) w.heap.size s w.heap.size cfg0 (.slice none 0 0) (.slice none 0 0) [] [] := by
  have h0 : (((w.alloc zeroScr).alloc (.cells #[.string s, .bool false] 56)).alloc zeroScr).heap[w.heap.size]? = some zeroScr := by
    repeat (first | (refine heap_new _ ?_; (simp; done)) | refine heap_old ?_)
  have h1 : (((w.alloc zeroScr).alloc (.cells #[.string s, .bool false] 56)).alloc zeroScr).heap[w.heap.size + 1]? = some (.cells #[.string s, .bool false] 56) := by
    repeat (first | (refine heap_new _ ?_; (simp; done)) | refine heap_old ?_)
  have h2 : (((w.alloc zeroScr).alloc (.cells #[.string s, .bool false] 56)).alloc zeroScr).heap[w.heap.size + 1 + 1]? = some zeroScr := by
    repeat (first | (refine heap_new _ ?_; (simp; done)) | refine heap_old ?_)
  have hc : ∀ i u, (#[.int .i64 0, .int .u64 0, .int .i64 0, .int .i64 0, .int .i64 0, .int .i64 0, .int .i64 0, .string ⟨#[]⟩, .slice none 0 0, .slice none 0 0] : Array Value)[i]? = some u →
      (((w.alloc zeroScr).alloc (.cells #[.string s, .bool false] 56)).alloc zeroScr).cell? ⟨w.heap.size + 1 + 1, i, none⟩ = some u := by
    intro i u hu
    rw [cell_of_row _ _ i _ _ _ h2]; exact hu
  refine ⟨⟨?_, ⟨_, h1⟩⟩, h0, ⟨⟨_, h2⟩, by omega, hc 0 _ rfl, hc 1 _ rfl, hc 2 _ rfl, hc 3 _ rfl, hc 4 _ rfl, hc 5 _ rfl, hc 6 _ rfl, hc 7 _ rfl, hc 8 _ rfl, hc 9 _ rfl, ⟨[], World.ownsRow_nil _ _ _ _, rfl, fun j hj => absurd hj (by simp)⟩, World.ownsRow_nil _ _ _ _⟩, ?_⟩
  · rw [cell_of_row _ _ 0 _ _ _ h1]; rfl
  · exact (((Below.refl _ _).alloc (Nat.le_refl _) _).alloc (by simp) _).alloc (by simp; omega) _

/-- .. in the middle of an operation. -/
structure FrSt (w0 W : World) (B : Nat) (s : ByteArray) (lim : Nat) (cf : CfgV) (v8 v9 : Value) (ps : List (List OpV)) (ks : List Int) (ob : Nat) (o : OpV) (v7 : Value) (xs : List OpV) (ub : Nat) (us : Array Value) : Prop where
  rd : RrSt w0 W B s lim cf v8 v9 ps ks
  op : OpBox W ob o
  obl : lim ≤ ob
  cur : CurRow W lim v7 xs
  ne : v7.ownBlock ≠ some ob
  ub : W.heap[ub]? = some (.cells us 57)
  B3 : B + 1 + 1 + 1 ≤ lim
section
variable {w0 W W' : World} {B lim ob ub : Nat} {s s' : ByteArray} {cf : CfgV} {v8 v9 v7 : Value} {ps : List (List OpV)} {ks : List Int} {o : OpV} {xs : List OpV} {us : Array Value}
theorem FrSt.ut (h : FrSt w0 W B s lim cf v8 v9 ps ks ob o v7 xs ub us) : ElemT W ub 57 := ⟨_, h.ub⟩
theorem FrSt.next (h : FrSt w0 W B s lim cf v8 v9 ps ks ob o v7 xs ub us) (hs : StrBox W' (B + 1) 56 s') (hg : W.grownBy W' (some (B + 1))) : FrSt w0 W' B s' lim cf v8 v9 ps ks ob o v7 xs ub us := by
  have hob := h.op.elem
  have h9 := h.rd.str.elem
  refine ⟨h.rd.next hs hg, h.op.keep (hg.block ob hob.lt (fun e => hob.ne h9 (by decide) (by injection e))), h.obl, h.cur.kept hg ?_, h.ne, (hg.block ub h.ut.lt (fun e => h.ut.ne h9 (by decide) (by injection e))).trans h.ub, h.B3⟩
  intro q e hv
  injection e with e
  subst e
  exact (own_elem h.cur hv).ne h9 (by decide) rfl
theorem FrSt.setRd (h : FrSt w0 W B s lim cf v8 v9 ps ks ob o v7 xs ub us) (i : Nat) (v : Value) : RrSt w0 (W.setCell ⟨ob, i, none⟩ v) B s lim cf v8 v9 ps ks ∧ CurRow (W.setCell ⟨ob, i, none⟩ v) lim v7 xs ∧ (W.setCell ⟨ob, i, none⟩ v).heap[ub]? = some (.cells us 57) := by
  have hob := h.op.elem
  have hlt := h.B3
  have hl2 := h.obl
  refine ⟨h.rd.other (Mild.set v lim hob (.inr ⟨rfl, h.obl⟩)) fun q hq => Below.heap_setCell _ _ _ _ (by show q ≠ ob; omega), h.cur.kept (set_grown W ob i v) (fun q e => by injection e with e; subst e; exact h.ne), (Below.heap_setCell _ _ _ _ (h.ut.ne hob (by decide))).trans h.ub⟩
theorem FrSt.set1 (h : FrSt w0 W B s lim cf v8 v9 ps ks ob o v7 xs ub us) (x : Int) : FrSt w0 (W.setCell ⟨ob, 1, none⟩ (.int .i64 x)) B s lim cf v8 v9 ps ks ob { o with slot := x } v7 xs ub us := by
  obtain ⟨r1, r2, r3⟩ := h.setRd 1 (.int .i64 x)
  exact ⟨r1, ⟨h.op.elem.set _ _ rfl, by have := (set_cell_ne (w := W) (xb := ob) (i := 1) (j := 0) (.int .i64 x) (by decide)).trans (by simpa using h.op.op.c0); simpa using this, by have := set_cell_at (i := 1) (.int .i64 x) (by simpa using h.op.op.c1); simpa using this, by have := (set_cell_ne (w := W) (xb := ob) (i := 1) (j := 2) (.int .i64 x) (by decide)).trans (by simpa using h.op.op.c2); simpa using this, by have := (set_cell_ne (w := W) (xb := ob) (i := 1) (j := 3) (.int .i64 x) (by decide)).trans (by simpa using h.op.op.c3); simpa using this, by have := (set_cell_ne (w := W) (xb := ob) (i := 1) (j := 4) (.int .i64 x) (by decide)).trans (by simpa using h.op.op.c4); simpa using this, by have := (set_cell_ne (w := W) (xb := ob) (i := 1) (j := 5) (.int .i64 x) (by decide)).trans (by simpa using h.op.op.c5); simpa using this, by have := (set_cell_ne (w := W) (xb := ob) (i := 1) (j := 6) (.int .i64 x) (by decide)).trans (by simpa using h.op.op.c6); simpa using this⟩, h.obl, r2, h.ne, r3, h.B3⟩
theorem FrSt.set2 (h : FrSt w0 W B s lim cf v8 v9 ps ks ob o v7 xs ub us) (x : Int) : FrSt w0 (W.setCell ⟨ob, 2, none⟩ (.int .i64 x)) B s lim cf v8 v9 ps ks ob { o with pos := x } v7 xs ub us := by
  obtain ⟨r1, r2, r3⟩ := h.setRd 2 (.int .i64 x)
  exact ⟨r1, ⟨h.op.elem.set _ _ rfl, by have := (set_cell_ne (w := W) (xb := ob) (i := 2) (j := 0) (.int .i64 x) (by decide)).trans (by simpa using h.op.op.c0); simpa using this, by have := (set_cell_ne (w := W) (xb := ob) (i := 2) (j := 1) (.int .i64 x) (by decide)).trans (by simpa using h.op.op.c1); simpa using this, by have := set_cell_at (i := 2) (.int .i64 x) (by simpa using h.op.op.c2); simpa using this, by have := (set_cell_ne (w := W) (xb := ob) (i := 2) (j := 3) (.int .i64 x) (by decide)).trans (by simpa using h.op.op.c3); simpa using this, by have := (set_cell_ne (w := W) (xb := ob) (i := 2) (j := 4) (.int .i64 x) (by decide)).trans (by simpa using h.op.op.c4); simpa using this, by have := (set_cell_ne (w := W) (xb := ob) (i := 2) (j := 5) (.int .i64 x) (by decide)).trans (by simpa using h.op.op.c5); simpa using this, by have := (set_cell_ne (w := W) (xb := ob) (i := 2) (j := 6) (.int .i64 x) (by decide)).trans (by simpa using h.op.op.c6); simpa using this⟩, h.obl, r2, h.ne, r3, h.B3⟩
theorem FrSt.set3 (h : FrSt w0 W B s lim cf v8 v9 ps ks ob o v7 xs ub us) (x : Int) : FrSt w0 (W.setCell ⟨ob, 3, none⟩ (.int .i64 x)) B s lim cf v8 v9 ps ks ob { o with num := x } v7 xs ub us := by
  obtain ⟨r1, r2, r3⟩ := h.setRd 3 (.int .i64 x)
  exact ⟨r1, ⟨h.op.elem.set _ _ rfl, by have := (set_cell_ne (w := W) (xb := ob) (i := 3) (j := 0) (.int .i64 x) (by decide)).trans (by simpa using h.op.op.c0); simpa using this, by have := (set_cell_ne (w := W) (xb := ob) (i := 3) (j := 1) (.int .i64 x) (by decide)).trans (by simpa using h.op.op.c1); simpa using this, by have := (set_cell_ne (w := W) (xb := ob) (i := 3) (j := 2) (.int .i64 x) (by decide)).trans (by simpa using h.op.op.c2); simpa using this, by have := set_cell_at (i := 3) (.int .i64 x) (by simpa using h.op.op.c3); simpa using this, by have := (set_cell_ne (w := W) (xb := ob) (i := 3) (j := 4) (.int .i64 x) (by decide)).trans (by simpa using h.op.op.c4); simpa using this, by have := (set_cell_ne (w := W) (xb := ob) (i := 3) (j := 5) (.int .i64 x) (by decide)).trans (by simpa using h.op.op.c5); simpa using this, by have := (set_cell_ne (w := W) (xb := ob) (i := 3) (j := 6) (.int .i64 x) (by decide)).trans (by simpa using h.op.op.c6); simpa using this⟩, h.obl, r2, h.ne, r3, h.B3⟩
theorem FrSt.set4 (h : FrSt w0 W B s lim cf v8 v9 ps ks ob o v7 xs ub us) (x : Int) : FrSt w0 (W.setCell ⟨ob, 4, none⟩ (.int .u32 x)) B s lim cf v8 v9 ps ks ob { o with id := x } v7 xs ub us := by
  obtain ⟨r1, r2, r3⟩ := h.setRd 4 (.int .u32 x)
  exact ⟨r1, ⟨h.op.elem.set _ _ rfl, by have := (set_cell_ne (w := W) (xb := ob) (i := 4) (j := 0) (.int .u32 x) (by decide)).trans (by simpa using h.op.op.c0); simpa using this, by have := (set_cell_ne (w := W) (xb := ob) (i := 4) (j := 1) (.int .u32 x) (by decide)).trans (by simpa using h.op.op.c1); simpa using this, by have := (set_cell_ne (w := W) (xb := ob) (i := 4) (j := 2) (.int .u32 x) (by decide)).trans (by simpa using h.op.op.c2); simpa using this, by have := (set_cell_ne (w := W) (xb := ob) (i := 4) (j := 3) (.int .u32 x) (by decide)).trans (by simpa using h.op.op.c3); simpa using this, by have := set_cell_at (i := 4) (.int .u32 x) (by simpa using h.op.op.c4); simpa using this, by have := (set_cell_ne (w := W) (xb := ob) (i := 4) (j := 5) (.int .u32 x) (by decide)).trans (by simpa using h.op.op.c5); simpa using this, by have := (set_cell_ne (w := W) (xb := ob) (i := 4) (j := 6) (.int .u32 x) (by decide)).trans (by simpa using h.op.op.c6); simpa using this⟩, h.obl, r2, h.ne, r3, h.B3⟩
theorem FrSt.set5 (h : FrSt w0 W B s lim cf v8 v9 ps ks ob o v7 xs ub us) (x : Int) : FrSt w0 (W.setCell ⟨ob, 5, none⟩ (.int .u8 x)) B s lim cf v8 v9 ps ks ob { o with grav := x } v7 xs ub us := by
  obtain ⟨r1, r2, r3⟩ := h.setRd 5 (.int .u8 x)
  exact ⟨r1, ⟨h.op.elem.set _ _ rfl, by have := (set_cell_ne (w := W) (xb := ob) (i := 5) (j := 0) (.int .u8 x) (by decide)).trans (by simpa using h.op.op.c0); simpa using this, by have := (set_cell_ne (w := W) (xb := ob) (i := 5) (j := 1) (.int .u8 x) (by decide)).trans (by simpa using h.op.op.c1); simpa using this, by have := (set_cell_ne (w := W) (xb := ob) (i := 5) (j := 2) (.int .u8 x) (by decide)).trans (by simpa using h.op.op.c2); simpa using this, by have := (set_cell_ne (w := W) (xb := ob) (i := 5) (j := 3) (.int .u8 x) (by decide)).trans (by simpa using h.op.op.c3); simpa using this, by have := (set_cell_ne (w := W) (xb := ob) (i := 5) (j := 4) (.int .u8 x) (by decide)).trans (by simpa using h.op.op.c4); simpa using this, by have := set_cell_at (i := 5) (.int .u8 x) (by simpa using h.op.op.c5); simpa using this, by have := (set_cell_ne (w := W) (xb := ob) (i := 5) (j := 6) (.int .u8 x) (by decide)).trans (by simpa using h.op.op.c6); simpa using this⟩, h.obl, r2, h.ne, r3, h.B3⟩
theorem FrSt.set6 (h : FrSt w0 W B s lim cf v8 v9 ps ks ob o v7 xs ub us) (x : ByteArray) : FrSt w0 (W.setCell ⟨ob, 6, none⟩ (.string x)) B s lim cf v8 v9 ps ks ob { o with text := x } v7 xs ub us := by
  obtain ⟨r1, r2, r3⟩ := h.setRd 6 (.string x)
  exact ⟨r1, ⟨h.op.elem.set _ _ rfl, by have := (set_cell_ne (w := W) (xb := ob) (i := 6) (j := 0) (.string x) (by decide)).trans (by simpa using h.op.op.c0); simpa using this, by have := (set_cell_ne (w := W) (xb := ob) (i := 6) (j := 1) (.string x) (by decide)).trans (by simpa using h.op.op.c1); simpa using this, by have := (set_cell_ne (w := W) (xb := ob) (i := 6) (j := 2) (.string x) (by decide)).trans (by simpa using h.op.op.c2); simpa using this, by have := (set_cell_ne (w := W) (xb := ob) (i := 6) (j := 3) (.string x) (by decide)).trans (by simpa using h.op.op.c3); simpa using this, by have := (set_cell_ne (w := W) (xb := ob) (i := 6) (j := 4) (.string x) (by decide)).trans (by simpa using h.op.op.c4); simpa using this, by have := (set_cell_ne (w := W) (xb := ob) (i := 6) (j := 5) (.string x) (by decide)).trans (by simpa using h.op.op.c5); simpa using this, by have := set_cell_at (i := 6) (.string x) (by simpa using h.op.op.c6); simpa using this⟩, h.obl, r2, h.ne, r3, h.B3⟩

theorem FrSt.cell (h : FrSt w0 W B s lim cf v8 v9 ps ks ob o v7 xs ub us) (i : Nat) : W.cell? ⟨ub, i, none⟩ = us[i]? := cell_of_row _ _ i _ _ _ h.ub
end
theorem frst_init {w0 W W' : World} {B lim : Nat} {s : ByteArray} {cf : CfgV} {v8 v9 v7 : Value} {ps : List (List OpV)} {ks : List Int} {k : Int} {xs : List OpV} {us : Array Value}
    (h : RrSt w0 W B s lim cf v8 v9 ps ks) (hc : CurRow W lim v7 xs) (hl : lim ≤ W.heap.size) (h4 : B + 1 + 1 + 1 ≤ lim) (hg : (W.alloc (opObj k)).grownBy W' none) :
    FrSt w0 (W'.alloc (.cells us 57)) B s lim cf v8 v9 ps ks W.heap.size (op0 k) v7 xs W'.heap.size us := by
  have hn : (W.alloc (opObj k)).heap[W.heap.size]? = some (opObj k) := heap_alloc_new W _
  have hn' : W'.heap[W.heap.size]? = some (opObj k) := (hg.block _ (by simp) (by simp)).trans hn
  have hlt : W.heap.size < W'.heap.size := by have := hg.size; simp at this; omega
  have hn2 : (W'.alloc (.cells us 57)).heap[W.heap.size]? = some (opObj k) := (Below.heap_alloc _ _ _ hlt).trans hn'
  have hm : Mild W (W'.alloc (.cells us 57)) lim := ⟨hg.os, hg.tape, hg.output, by simp; omega, fun q t ht _ _ => (Below.heap_alloc _ _ _ (by have := ht.lt; omega)).trans ((hg.block q (by have := ht.lt; simp; omega) (by simp)).trans (Below.heap_alloc _ _ _ ht.lt))⟩
  have hgW : W.grownBy (W'.alloc (.cells us 57)) none := ⟨hg.os, hg.tape, hg.output, by simp; omega, fun q hq _ => (Below.heap_alloc _ _ _ (by omega)).trans ((hg.block q (by simp; omega) (by simp)).trans (Below.heap_alloc _ _ _ hq))⟩
  have h3 := h.lt2
  refine ⟨h.other hm fun q hq => hgW.block q (by omega) (by simp), ⟨⟨_, hn2⟩, ?_⟩, hl, hc.kept hgW (fun q e => by cases e), ?_, heap_alloc_new _ _, h4⟩
  · have g : ∀ i u, (#[.int .u8 k, .int .i64 0, .int .i64 0, .int .i64 0, .int .u32 0, .int .u8 0, .string ⟨#[]⟩] : Array Value)[i]? = some u → (W'.alloc (.cells us 57)).cell? ⟨W.heap.size, i, none⟩ = some u := fun i u hu => by
      rw [cell_of_row _ _ i _ _ _ hn2]; exact hu
    exact ⟨g 0 _ rfl, by rw [Nat.zero_add]; exact g 1 _ rfl, by rw [Nat.zero_add]; exact g 2 _ rfl, by rw [Nat.zero_add]; exact g 3 _ rfl, by rw [Nat.zero_add]; exact g 4 _ rfl, by rw [Nat.zero_add]; exact g 5 _ rfl, by rw [Nat.zero_add]; exact g 6 _ rfl⟩
  · intro e
    have := (World.ownsRow.lt hc _ e).2
    omega

/-! ### The fields that a kind of operation uses, by the reference -/
def useB (k : Int) (i : Int) : Bool := (fieldsOf k).contains i
def usesVal (k : Int) : Value := .agg #[.bool (useB k 0), .bool (useB k 1), .bool (useB k 2), .bool (useB k 3), .bool (useB k 4), .bool (useB k 5)]
def UsesRes (k : Int) (w : World) (e : Ending) (w' : World) : Prop := e = .returned (usesVal k) ∧ w.grownBy w' none
end Go.Proofs.YtbjadgggpkbjmaaGreat
