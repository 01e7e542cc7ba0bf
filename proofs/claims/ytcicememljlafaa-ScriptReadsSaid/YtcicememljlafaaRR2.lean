import Derived.Test.YtcicememljlafaaRR1
namespace Go.Proofs.Ytcicememljlafaa
open Go.RowKit

theorem ops_pushedR {w0 W w1 : World} {B lim : Nat} {s : ByteArray} {cf : CfgV} {v8 v9 v7 v1 : Value} {ps : List (List OpV)} {ks : List Int} {xs : List OpV} {o : OpV} {O : Obj}
    (h : RrSt w0 W B s lim cf v8 v9 ps ks) (hc : CurRow W lim v7 xs) (hl : lim ≤ W.heap.size) (h4 : B + 1 + 1 + 1 ≤ lim)
    (hown : w1.ownsRow lim 44 7 v1 (xs.length + 1) ((xs.flatMap opCells) ++ opCells o)) (hg : (W.alloc O).grownBy w1 v7.ownBlock) :
    RrSt w0 w1 B s lim cf v8 v9 ps ks ∧ CurRow w1 lim v1 (xs ++ [o]) ∧ lim ≤ w1.heap.size := by
  have hca : CurRow (W.alloc O) lim v7 xs := World.ownsRow.alloc hc _
  have hs := hg.size
  refine ⟨(h.alloc O).other (Mild.grown hg fun q e => ⟨44, own_elem hca e, .inr ⟨rfl, (World.ownsRow.lt hca q e).1⟩⟩) fun q hq => hg.block q (by simp; omega) (fun e => ?_), ?_, by simp at hs; omega⟩
  · have := (World.ownsRow.lt hca q e.symm).1
    omega
  · show w1.ownsRow lim 44 7 v1 (xs ++ [o]).length ((xs ++ [o]).flatMap opCells)
    rw [List.length_append, List.flatMap_append, show [o].flatMap opCells = opCells o from by simp]
    exact hown

theorem news_op' (W : World) (o : OpV) (t : TypeId) (b : Nat) (hb : W.heap.size = b) : ∀ j u, (opCells o)[j]? = some u → (W.alloc (.cells #[.int .u8 o.kind, .int .i64 o.slot, .int .i64 o.pos, .int .i64 o.num, .int .u32 o.id, .int .u8 o.grav, .string o.text] t)).cell? ((⟨b, 0, none⟩ : Addr).add j) = some u := by
  subst hb; exact news_op W o t
noncomputable def body13a : Code := ((Try.f13.body.bind firstLoop).getD .skip)
noncomputable def body13b : Code := ((firstLoop body13a).getD .skip)
def blockIn : Code → Code
  | .seq _ (.seq (.block _ (.seq _ x)) _) => x
  | _ => .skip
/-- The reading of an operation, behind its kind. -/
noncomputable def body13o : Code := blockIn body13b
def OnlyNormal (R : Act → World → Prop) : Exit → Act → World → Prop
  | .normal, a, w => R a w
  | _, _, _ => False
theorem OnlyNormal.use {Q : Exit → Act → World → Prop} : ∀ e a w, OnlyNormal (Q .normal) e a w → Q e a w := by
  intro e a w h
  cases e <;> first | exact h.elim | exact h

set_option maxHeartbeats 4000000 in
set_option maxRecDepth 100000 in
theorem refOp0 (w W : World) (B ob lim2 : Nat) (kd : Int) (st : ByteArray) (cf : CfgV) (v8 v7 : Value) (ps : List (List OpV)) (xs : List OpV)
    (c0 c1 c2 c4 c5 c6 c7 c9 c12 c13 c14 c15 c16 c17 c18 c19 c20 c21 c22 c23 c24 c25 c26 c27 c28 c29 c30 c31 c32 c33 c34 c35 c36 c37 c38 c39 c40 c41 c42 c43 c44 c45 c46 c47 c48 c49 c50 c51 c52 c53 c54 c55 c56 c57 c58 c59 c60 c61 c62 c63 c64 c65 c66 c67 c68 c69 c70 c71 c72 c73 c74 c75 c76 c77 c78 c79 c80 c81 c82 c83 c84 c126 c127 c128 c129 c130 c131 c132 c133 c134 c135 c136 c137 c138 c139 c140 c141 c142 c143 c144 c145 c146 c147 c148 c149 c150 c151 c152 c153 c154 c155 : Value) (u11 u85 u86 u87 u88 u89 u90 u91 u92 u93 u94 u95 u96 u97 u98 u99 u100 u101 u102 u103 u104 u105 u106 u107 u108 u109 u110 u111 u112 u113 u114 u115 u116 u117 u118 u119 u120 u121 u122 u123 u124 u125 : Value) (Q : Exit → Act → World → Prop)
    (hx : ∀ (v' u11 u85 u86 u87 u88 u89 u90 u91 u92 u93 u94 u95 u96 u97 u98 u99 u100 u101 u102 u103 u104 u105 u106 u107 u108 u109 u110 u111 u112 u113 u114 u115 u116 u117 u118 u119 u120 u121 u122 u123 u124 u125 : Value) (W' : World), Hid (RrSt w W' B (foldF [1, 5] (op0 kd, st)).2 lim2 cf v8 (.slice none 0 0) ps [] ∧ CurRow W' lim2 v' (xs ++ [(foldF [1, 5] (op0 kd, st)).1]) ∧ lim2 ≤ W'.heap.size) → Q .normal ⟨List.toArray (c0 :: c1 :: c2 :: (.pointer (some ⟨B + 1, 0, none⟩)) :: c4 :: c5 :: c6 :: c7 :: v' :: c9 :: (.pointer (some ⟨ob, 0, none⟩)) :: u11 :: c12 :: c13 :: c14 :: c15 :: c16 :: c17 :: c18 :: c19 :: c20 :: c21 :: c22 :: c23 :: c24 :: c25 :: c26 :: c27 :: c28 :: c29 :: c30 :: c31 :: c32 :: c33 :: c34 :: c35 :: c36 :: c37 :: c38 :: c39 :: c40 :: c41 :: c42 :: c43 :: c44 :: c45 :: c46 :: c47 :: c48 :: c49 :: c50 :: c51 :: c52 :: c53 :: c54 :: c55 :: c56 :: c57 :: c58 :: c59 :: c60 :: c61 :: c62 :: c63 :: c64 :: c65 :: c66 :: c67 :: c68 :: c69 :: c70 :: c71 :: c72 :: c73 :: c74 :: c75 :: c76 :: c77 :: c78 :: c79 :: c80 :: c81 :: c82 :: c83 :: c84 :: u85 :: u86 :: u87 :: u88 :: u89 :: u90 :: u91 :: u92 :: u93 :: u94 :: u95 :: u96 :: u97 :: u98 :: u99 :: u100 :: u101 :: u102 :: u103 :: u104 :: u105 :: u106 :: u107 :: u108 :: u109 :: u110 :: u111 :: u112 :: u113 :: u114 :: u115 :: u116 :: u117 :: u118 :: u119 :: u120 :: u121 :: u122 :: u123 :: u124 :: u125 :: c126 :: c127 :: c128 :: c129 :: c130 :: c131 :: c132 :: c133 :: c134 :: c135 :: c136 :: c137 :: c138 :: c139 :: c140 :: c141 :: c142 :: c143 :: c144 :: c145 :: c146 :: c147 :: c148 :: c149 :: c150 :: c151 :: c152 :: c153 :: c154 :: c155 :: []), []⟩ W')
    (HQ : Hid (RrSt w W B st lim2 cf v8 (.slice none 0 0) ps [])) (HC : Hid (CurRow W lim2 v7 xs)) (hl : Hid (lim2 ≤ W.heap.size)) (hob : Hid (W.heap.size = ob)) (HL4 : Hid (B + 1 + 1 + 1 ≤ lim2)) (hst : st.size ≤ 3000) (hxl : xs.length < 8)
    (hk1 : 1 ≤ kd) (hk2 : kd ≤ 16) (HU : Hid (usesVal kd = .agg #[.bool false, .bool true, .bool false, .bool false, .bool false, .bool true])) :
    Code.wp Try.prog body13o Q ⟨List.toArray (c0 :: c1 :: c2 :: (.pointer (some ⟨B + 1, 0, none⟩)) :: c4 :: c5 :: c6 :: c7 :: v7 :: c9 :: (.pointer (some ⟨ob, 0, none⟩)) :: u11 :: c12 :: c13 :: c14 :: c15 :: c16 :: c17 :: c18 :: c19 :: c20 :: c21 :: c22 :: c23 :: c24 :: c25 :: c26 :: c27 :: c28 :: c29 :: c30 :: c31 :: c32 :: c33 :: c34 :: c35 :: c36 :: c37 :: c38 :: c39 :: c40 :: c41 :: c42 :: c43 :: c44 :: c45 :: c46 :: c47 :: c48 :: c49 :: c50 :: c51 :: c52 :: c53 :: c54 :: c55 :: c56 :: c57 :: c58 :: c59 :: c60 :: c61 :: c62 :: c63 :: c64 :: c65 :: c66 :: c67 :: c68 :: c69 :: c70 :: c71 :: c72 :: c73 :: c74 :: c75 :: c76 :: c77 :: c78 :: c79 :: c80 :: c81 :: c82 :: c83 :: c84 :: u85 :: u86 :: u87 :: u88 :: u89 :: u90 :: u91 :: u92 :: u93 :: u94 :: u95 :: u96 :: u97 :: u98 :: u99 :: u100 :: u101 :: u102 :: u103 :: u104 :: u105 :: u106 :: u107 :: u108 :: u109 :: u110 :: u111 :: u112 :: u113 :: u114 :: u115 :: u116 :: u117 :: u118 :: u119 :: u120 :: u121 :: u122 :: u123 :: u124 :: u125 :: c126 :: c127 :: c128 :: c129 :: c130 :: c131 :: c132 :: c133 :: c134 :: c135 :: c136 :: c137 :: c138 :: c139 :: c140 :: c141 :: c142 :: c143 :: c144 :: c145 :: c146 :: c147 :: c148 :: c149 :: c150 :: c151 :: c152 :: c153 :: c154 :: c155 :: []), []⟩ (W.alloc (opObj kd)) := by
  have HX := Lib.hid hx
  clear hx
  conv => arg 2; whnf
  have n0 : (W.alloc (opObj kd)).cell? ⟨ob, 0, none⟩ = some (.int .u8 kd) := by rw [World.cell?_alloc_at _ _ _ _ hob.out.symm]; rfl
  go_wp2_with fail
  refine (usesFn kd _ (by omega) (by omega)).mono ?_
  rintro e w1 ⟨rfl, hg⟩
  rw [HU.out]
  obtain ⟨y0, HY0, HG⟩ : ∃ y0 : OpV × ByteArray, Hid (y0 = (op0 kd, st)) ∧ Hid (FrSt w (w1.alloc (.cells #[.bool false, .bool true, .bool false, .bool false, .bool false, .bool true] 57)) B y0.2 lim2 cf v8 (.slice none 0 0) ps [] ob y0.1 v7 xs w1.heap.size #[.bool false, .bool true, .bool false, .bool false, .bool false, .bool true]) := by
    refine ⟨_, rfl, ?_⟩
    have := frst_init (us := #[.bool false, .bool true, .bool false, .bool false, .bool false, .bool true]) HQ.out HC.out hl.out HL4.out hg
    rw [hob.out] at this
    exact this
  clear hg HQ HC n0
  have hub1 : ¬ w1.heap.size = ob := by
    intro e
    have h1 := HG.out.op.elem
    have h2 := HG.out.ut
    rw [e] at h2
    exact h1.ne h2 (by decide) rfl
  have hub2 : ¬ ob = w1.heap.size := fun e => hub1 e.symm
  have hsy0 : y0.2.size ≤ 3000 := by rw [HY0.out]; exact hst
  generalize hub : w1.heap.size = ub at *
  have HUB := Lib.hid hub
  have u0 : (w1.alloc (.cells #[.bool false, .bool true, .bool false, .bool false, .bool false, .bool true] 57)).cell? ⟨ub, 0, none⟩ = some (.bool false) := HG.out.cell 0
  have u1 : (w1.alloc (.cells #[.bool false, .bool true, .bool false, .bool false, .bool false, .bool true] 57)).cell? ⟨ub, 1, none⟩ = some (.bool true) := HG.out.cell 1
  have u2 : (w1.alloc (.cells #[.bool false, .bool true, .bool false, .bool false, .bool false, .bool true] 57)).cell? ⟨ub, 2, none⟩ = some (.bool false) := HG.out.cell 2
  have u3 : (w1.alloc (.cells #[.bool false, .bool true, .bool false, .bool false, .bool false, .bool true] 57)).cell? ⟨ub, 3, none⟩ = some (.bool false) := HG.out.cell 3
  have u4 : (w1.alloc (.cells #[.bool false, .bool true, .bool false, .bool false, .bool false, .bool true] 57)).cell? ⟨ub, 4, none⟩ = some (.bool false) := HG.out.cell 4
  have u5 : (w1.alloc (.cells #[.bool false, .bool true, .bool false, .bool false, .bool false, .bool true] 57)).cell? ⟨ub, 5, none⟩ = some (.bool true) := HG.out.cell 5
  have n0 := HG.out.op.op.c0
  have n1 := HG.out.op.op.c1
  have n2 := HG.out.op.op.c2
  have n3 := HG.out.op.op.c3
  have n4 := HG.out.op.op.c4
  have n5 := HG.out.op.op.c5
  have n6 := HG.out.op.op.c6
  rw [Nat.zero_add] at n1 n2 n3 n4 n5 n6
  have z1 := HG.out.op.elem.frozen 1
  have z2 := HG.out.op.elem.frozen 2
  have z3 := HG.out.op.elem.frozen 3
  have z4 := HG.out.op.elem.frozen 4
  have z5 := HG.out.op.elem.frozen 5
  have z6 := HG.out.op.elem.frozen 6
  go_wp2_with fail
  refine (refNext 64 (B + 1) 56 y0.2 _ HG.out.rd.str hsy0 (by omega) (by omega)).mono ?_
  rintro e w2 ⟨rfl, hb, hg⟩
  have HG1 := Lib.hid (HG.out.next hb hg)
  clear hb hg HG
  clear u0 u1 u2 u3 u4 u5 n0 n1 n2 n3 n4 n5 n6 z1 z2 z3 z4 z5 z6
  have b0 := Int.emod_nonneg (hd y0.2) (show (64 : Int) ≠ 0 by omega)
  have b1 := Int.emod_lt_of_pos (hd y0.2) (show (0 : Int) < 64 by omega)
  have hsz := tl_size y0.2
  obtain ⟨y1, HY1, HG⟩ : ∃ y : OpV × ByteArray, Hid (y = stepF 1 y0) ∧ Hid (FrSt w (w2.setCell ⟨ob, 2, none⟩ (.int .i64 (hd y0.2 % 64))) B y.2 lim2 cf v8 (.slice none 0 0) ps [] ob y.1 v7 xs ub #[.bool false, .bool true, .bool false, .bool false, .bool false, .bool true]) := ⟨_, rfl, HG1.out.set2 (hd y0.2 % 64)⟩
  have hsy1 : y1.2.size ≤ 3000 := by rw [HY1.out]; show (tl y0.2).size ≤ 3000; omega
  have HOP : Hid (y1.1 = { y0.1 with pos := hd y0.2 % 64 }) := by show _ = _; rw [HY1.out]; rfl
  clear hsz
  generalize hd y0.2 % 64 = x0 at *
  have u0 : w2.cell? ⟨ub, 0, none⟩ = some (.bool false) := HG1.out.cell 0
  have u1 : w2.cell? ⟨ub, 1, none⟩ = some (.bool true) := HG1.out.cell 1
  have u2 : w2.cell? ⟨ub, 2, none⟩ = some (.bool false) := HG1.out.cell 2
  have u3 : w2.cell? ⟨ub, 3, none⟩ = some (.bool false) := HG1.out.cell 3
  have u4 : w2.cell? ⟨ub, 4, none⟩ = some (.bool false) := HG1.out.cell 4
  have u5 : w2.cell? ⟨ub, 5, none⟩ = some (.bool true) := HG1.out.cell 5
  have n0 := HG1.out.op.op.c0
  have n1 := HG1.out.op.op.c1
  have n2 := HG1.out.op.op.c2
  have n3 := HG1.out.op.op.c3
  have n4 := HG1.out.op.op.c4
  have n5 := HG1.out.op.op.c5
  have n6 := HG1.out.op.op.c6
  rw [Nat.zero_add] at n1 n2 n3 n4 n5 n6
  have z1 := HG1.out.op.elem.frozen 1
  have z2 := HG1.out.op.elem.frozen 2
  have z3 := HG1.out.op.elem.frozen 3
  have z4 := HG1.out.op.elem.frozen 4
  have z5 := HG1.out.op.elem.frozen 5
  have z6 := HG1.out.op.elem.frozen 6
  clear HG1
  go_wp2_with fail
  refine (refNext 16 (B + 1) 56 y1.2 _ HG.out.rd.str hsy1 (by omega) (by omega)).mono ?_
  rintro e w11 ⟨rfl, hb, hg⟩
  have HGm := Lib.hid (HG.out.next hb hg)
  clear hb hg HG
  clear u0 u1 u2 u3 u4 u5 n0 n1 n2 n3 n4 n5 n6 z1 z2 z3 z4 z5 z6
  have b0 := Int.emod_nonneg (hd y1.2) (show (16 : Int) ≠ 0 by omega)
  have b1 := Int.emod_lt_of_pos (hd y1.2) (show (0 : Int) < 16 by omega)
  have hsz := tl_size y1.2
  have HSF : Hid (stepF 5 y1 = ({ y1.1 with text := letT (tl y1.2) (hd y1.2 % 16).toNat }, tlN (tl y1.2) (hd y1.2 % 16).toNat)) := by show _ = _; rfl
  generalize hd y1.2 % 16 = qx at *
  obtain ⟨m, rfl⟩ := Int.eq_ofNat_of_zero_le b0
  rw [Int.toNat_natCast] at HSF
  go_wp2_with fail
  refine (refLetters m (B + 1) 56 (tl y1.2) _ HGm.out.rd.str (by omega) (by omega)).mono ?_
  rintro e w3 ⟨rfl, hb, hg⟩
  have HG1 := Lib.hid (HGm.out.next hb hg)
  clear hb hg HGm b0 b1
  obtain ⟨y2, HY2, HG⟩ : ∃ y : OpV × ByteArray, Hid (y = stepF 5 y1) ∧ Hid (FrSt w (w3.setCell ⟨ob, 6, none⟩ (.string (letT (tl y1.2) m))) B y.2 lim2 cf v8 (.slice none 0 0) ps [] ob y.1 v7 xs ub #[.bool false, .bool true, .bool false, .bool false, .bool false, .bool true]) := ⟨_, HSF.out.symm, HG1.out.set6 (letT (tl y1.2) m)⟩
  have HOP : Hid (y2.1 = { y1.1 with text := letT (tl y1.2) m }) := by show _ = _; rw [HY2.out, HSF.out]
  generalize letT (tl y1.2) m = x1 at *
  clear HSF hsz
  have u0 : w3.cell? ⟨ub, 0, none⟩ = some (.bool false) := HG1.out.cell 0
  have u1 : w3.cell? ⟨ub, 1, none⟩ = some (.bool true) := HG1.out.cell 1
  have u2 : w3.cell? ⟨ub, 2, none⟩ = some (.bool false) := HG1.out.cell 2
  have u3 : w3.cell? ⟨ub, 3, none⟩ = some (.bool false) := HG1.out.cell 3
  have u4 : w3.cell? ⟨ub, 4, none⟩ = some (.bool false) := HG1.out.cell 4
  have u5 : w3.cell? ⟨ub, 5, none⟩ = some (.bool true) := HG1.out.cell 5
  have n0 := HG1.out.op.op.c0
  have n1 := HG1.out.op.op.c1
  have n2 := HG1.out.op.op.c2
  have n3 := HG1.out.op.op.c3
  have n4 := HG1.out.op.op.c4
  have n5 := HG1.out.op.op.c5
  have n6 := HG1.out.op.op.c6
  rw [Nat.zero_add] at n1 n2 n3 n4 n5 n6
  have z1 := HG1.out.op.elem.frozen 1
  have z2 := HG1.out.op.elem.frozen 2
  have z3 := HG1.out.op.elem.frozen 3
  have z4 := HG1.out.op.elem.frozen 4
  have z5 := HG1.out.op.elem.frozen 5
  have z6 := HG1.out.op.elem.frozen 6
  clear HG1
  have HFD : Hid (foldF [1, 5] (op0 kd, st) = y2) := by
    show foldF [1, 5] (op0 kd, st) = y2
    rw [HY2.out, HY1.out, HY0.out]; rfl
  rw [HFD.out] at HX
  have HRD := Lib.hid HG.out.rd
  have HC := Lib.hid HG.out.cur
  have hl11 := Nat.le_of_lt (Nat.lt_of_le_of_lt HG.out.obl HG.out.op.elem.lt)
  have HSZ := Lib.hid hl11
  clear hl11
  obtain ⟨i0, hi, hz0, hz1, hz2⟩ := info_parts op_info
  go_wp2_with (at_builtin; refine wpList_append_own _ rfl _ _ 41 rfl lim2 44 i0 (.agg #[.int .u8 0, .int .i64 0, .int .i64 0, .int .i64 0, .int .u32 0, .int .u8 0, .string ⟨#[]⟩]) 7 56 Try.underlying41 hi hz0 hz1 hz2 rfl (by decide) _ _ _ rfl (HC.out.alloc _) ⟨w3.heap.size, 0, none⟩ 1 1 (opCells { y1.1 with text := x1 }) rfl rfl (news_op' _ _ _ _ (by simp)) (one_op _) ?c3 ?c4 ?c5 ?_)
  case c3 => unfold maxLen; omega
  case c4 => omega
  case c5 => exact Nat.le_trans HSZ.out (by simp)
  intro v' w20 hown hgrow _
  have HA := Lib.hid (ops_pushedR (o := { y1.1 with text := x1 }) HRD.out HC.out HSZ.out HL4.out hown hgrow)
  clear hown hgrow HRD HC
  go_wp2_with fail
  exact HX.out v' _ _ _ _ _ _ _ _ _ _ _ _ _ _ _ _ _ _ _ _ _ _ _ _ _ _ _ _ _ _ _ _ _ _ _ _ _ _ _ _ _ _ _ (by rw [HOP.out]; exact HA.out)

set_option maxHeartbeats 4000000 in
set_option maxRecDepth 100000 in
theorem refOp1 (w W : World) (B ob lim2 : Nat) (kd : Int) (st : ByteArray) (cf : CfgV) (v8 v7 : Value) (ps : List (List OpV)) (xs : List OpV)
    (c0 c1 c2 c4 c5 c6 c7 c9 c12 c13 c14 c15 c16 c17 c18 c19 c20 c21 c22 c23 c24 c25 c26 c27 c28 c29 c30 c31 c32 c33 c34 c35 c36 c37 c38 c39 c40 c41 c42 c43 c44 c45 c46 c47 c48 c49 c50 c51 c52 c53 c54 c55 c56 c57 c58 c59 c60 c61 c62 c63 c64 c65 c66 c67 c68 c69 c70 c71 c72 c73 c74 c75 c76 c77 c78 c79 c80 c81 c82 c83 c84 c126 c127 c128 c129 c130 c131 c132 c133 c134 c135 c136 c137 c138 c139 c140 c141 c142 c143 c144 c145 c146 c147 c148 c149 c150 c151 c152 c153 c154 c155 : Value) (u11 u85 u86 u87 u88 u89 u90 u91 u92 u93 u94 u95 u96 u97 u98 u99 u100 u101 u102 u103 u104 u105 u106 u107 u108 u109 u110 u111 u112 u113 u114 u115 u116 u117 u118 u119 u120 u121 u122 u123 u124 u125 : Value) (Q : Exit → Act → World → Prop)
    (hx : ∀ (v' u11 u85 u86 u87 u88 u89 u90 u91 u92 u93 u94 u95 u96 u97 u98 u99 u100 u101 u102 u103 u104 u105 u106 u107 u108 u109 u110 u111 u112 u113 u114 u115 u116 u117 u118 u119 u120 u121 u122 u123 u124 u125 : Value) (W' : World), Hid (RrSt w W' B (foldF [1, 2] (op0 kd, st)).2 lim2 cf v8 (.slice none 0 0) ps [] ∧ CurRow W' lim2 v' (xs ++ [(foldF [1, 2] (op0 kd, st)).1]) ∧ lim2 ≤ W'.heap.size) → Q .normal ⟨List.toArray (c0 :: c1 :: c2 :: (.pointer (some ⟨B + 1, 0, none⟩)) :: c4 :: c5 :: c6 :: c7 :: v' :: c9 :: (.pointer (some ⟨ob, 0, none⟩)) :: u11 :: c12 :: c13 :: c14 :: c15 :: c16 :: c17 :: c18 :: c19 :: c20 :: c21 :: c22 :: c23 :: c24 :: c25 :: c26 :: c27 :: c28 :: c29 :: c30 :: c31 :: c32 :: c33 :: c34 :: c35 :: c36 :: c37 :: c38 :: c39 :: c40 :: c41 :: c42 :: c43 :: c44 :: c45 :: c46 :: c47 :: c48 :: c49 :: c50 :: c51 :: c52 :: c53 :: c54 :: c55 :: c56 :: c57 :: c58 :: c59 :: c60 :: c61 :: c62 :: c63 :: c64 :: c65 :: c66 :: c67 :: c68 :: c69 :: c70 :: c71 :: c72 :: c73 :: c74 :: c75 :: c76 :: c77 :: c78 :: c79 :: c80 :: c81 :: c82 :: c83 :: c84 :: u85 :: u86 :: u87 :: u88 :: u89 :: u90 :: u91 :: u92 :: u93 :: u94 :: u95 :: u96 :: u97 :: u98 :: u99 :: u100 :: u101 :: u102 :: u103 :: u104 :: u105 :: u106 :: u107 :: u108 :: u109 :: u110 :: u111 :: u112 :: u113 :: u114 :: u115 :: u116 :: u117 :: u118 :: u119 :: u120 :: u121 :: u122 :: u123 :: u124 :: u125 :: c126 :: c127 :: c128 :: c129 :: c130 :: c131 :: c132 :: c133 :: c134 :: c135 :: c136 :: c137 :: c138 :: c139 :: c140 :: c141 :: c142 :: c143 :: c144 :: c145 :: c146 :: c147 :: c148 :: c149 :: c150 :: c151 :: c152 :: c153 :: c154 :: c155 :: []), []⟩ W')
    (HQ : Hid (RrSt w W B st lim2 cf v8 (.slice none 0 0) ps [])) (HC : Hid (CurRow W lim2 v7 xs)) (hl : Hid (lim2 ≤ W.heap.size)) (hob : Hid (W.heap.size = ob)) (HL4 : Hid (B + 1 + 1 + 1 ≤ lim2)) (hst : st.size ≤ 3000) (hxl : xs.length < 8)
    (hk1 : 1 ≤ kd) (hk2 : kd ≤ 16) (HU : Hid (usesVal kd = .agg #[.bool false, .bool true, .bool true, .bool false, .bool false, .bool false])) :
    Code.wp Try.prog body13o Q ⟨List.toArray (c0 :: c1 :: c2 :: (.pointer (some ⟨B + 1, 0, none⟩)) :: c4 :: c5 :: c6 :: c7 :: v7 :: c9 :: (.pointer (some ⟨ob, 0, none⟩)) :: u11 :: c12 :: c13 :: c14 :: c15 :: c16 :: c17 :: c18 :: c19 :: c20 :: c21 :: c22 :: c23 :: c24 :: c25 :: c26 :: c27 :: c28 :: c29 :: c30 :: c31 :: c32 :: c33 :: c34 :: c35 :: c36 :: c37 :: c38 :: c39 :: c40 :: c41 :: c42 :: c43 :: c44 :: c45 :: c46 :: c47 :: c48 :: c49 :: c50 :: c51 :: c52 :: c53 :: c54 :: c55 :: c56 :: c57 :: c58 :: c59 :: c60 :: c61 :: c62 :: c63 :: c64 :: c65 :: c66 :: c67 :: c68 :: c69 :: c70 :: c71 :: c72 :: c73 :: c74 :: c75 :: c76 :: c77 :: c78 :: c79 :: c80 :: c81 :: c82 :: c83 :: c84 :: u85 :: u86 :: u87 :: u88 :: u89 :: u90 :: u91 :: u92 :: u93 :: u94 :: u95 :: u96 :: u97 :: u98 :: u99 :: u100 :: u101 :: u102 :: u103 :: u104 :: u105 :: u106 :: u107 :: u108 :: u109 :: u110 :: u111 :: u112 :: u113 :: u114 :: u115 :: u116 :: u117 :: u118 :: u119 :: u120 :: u121 :: u122 :: u123 :: u124 :: u125 :: c126 :: c127 :: c128 :: c129 :: c130 :: c131 :: c132 :: c133 :: c134 :: c135 :: c136 :: c137 :: c138 :: c139 :: c140 :: c141 :: c142 :: c143 :: c144 :: c145 :: c146 :: c147 :: c148 :: c149 :: c150 :: c151 :: c152 :: c153 :: c154 :: c155 :: []), []⟩ (W.alloc (opObj kd)) := by
  have HX := Lib.hid hx
  clear hx
  conv => arg 2; whnf
  have n0 : (W.alloc (opObj kd)).cell? ⟨ob, 0, none⟩ = some (.int .u8 kd) := by rw [World.cell?_alloc_at _ _ _ _ hob.out.symm]; rfl
  go_wp2_with fail
  refine (usesFn kd _ (by omega) (by omega)).mono ?_
  rintro e w1 ⟨rfl, hg⟩
  rw [HU.out]
  obtain ⟨y0, HY0, HG⟩ : ∃ y0 : OpV × ByteArray, Hid (y0 = (op0 kd, st)) ∧ Hid (FrSt w (w1.alloc (.cells #[.bool false, .bool true, .bool true, .bool false, .bool false, .bool false] 57)) B y0.2 lim2 cf v8 (.slice none 0 0) ps [] ob y0.1 v7 xs w1.heap.size #[.bool false, .bool true, .bool true, .bool false, .bool false, .bool false]) := by
    refine ⟨_, rfl, ?_⟩
    have := frst_init (us := #[.bool false, .bool true, .bool true, .bool false, .bool false, .bool false]) HQ.out HC.out hl.out HL4.out hg
    rw [hob.out] at this
    exact this
  clear hg HQ HC n0
  have hub1 : ¬ w1.heap.size = ob := by
    intro e
    have h1 := HG.out.op.elem
    have h2 := HG.out.ut
    rw [e] at h2
    exact h1.ne h2 (by decide) rfl
  have hub2 : ¬ ob = w1.heap.size := fun e => hub1 e.symm
  have hsy0 : y0.2.size ≤ 3000 := by rw [HY0.out]; exact hst
  generalize hub : w1.heap.size = ub at *
  have HUB := Lib.hid hub
  have u0 : (w1.alloc (.cells #[.bool false, .bool true, .bool true, .bool false, .bool false, .bool false] 57)).cell? ⟨ub, 0, none⟩ = some (.bool false) := HG.out.cell 0
  have u1 : (w1.alloc (.cells #[.bool false, .bool true, .bool true, .bool false, .bool false, .bool false] 57)).cell? ⟨ub, 1, none⟩ = some (.bool true) := HG.out.cell 1
  have u2 : (w1.alloc (.cells #[.bool false, .bool true, .bool true, .bool false, .bool false, .bool false] 57)).cell? ⟨ub, 2, none⟩ = some (.bool true) := HG.out.cell 2
  have u3 : (w1.alloc (.cells #[.bool false, .bool true, .bool true, .bool false, .bool false, .bool false] 57)).cell? ⟨ub, 3, none⟩ = some (.bool false) := HG.out.cell 3
  have u4 : (w1.alloc (.cells #[.bool false, .bool true, .bool true, .bool false, .bool false, .bool false] 57)).cell? ⟨ub, 4, none⟩ = some (.bool false) := HG.out.cell 4
  have u5 : (w1.alloc (.cells #[.bool false, .bool true, .bool true, .bool false, .bool false, .bool false] 57)).cell? ⟨ub, 5, none⟩ = some (.bool false) := HG.out.cell 5
  have n0 := HG.out.op.op.c0
  have n1 := HG.out.op.op.c1
  have n2 := HG.out.op.op.c2
  have n3 := HG.out.op.op.c3
  have n4 := HG.out.op.op.c4
  have n5 := HG.out.op.op.c5
  have n6 := HG.out.op.op.c6
  rw [Nat.zero_add] at n1 n2 n3 n4 n5 n6
  have z1 := HG.out.op.elem.frozen 1
  have z2 := HG.out.op.elem.frozen 2
  have z3 := HG.out.op.elem.frozen 3
  have z4 := HG.out.op.elem.frozen 4
  have z5 := HG.out.op.elem.frozen 5
  have z6 := HG.out.op.elem.frozen 6
  go_wp2_with fail
  refine (refNext 64 (B + 1) 56 y0.2 _ HG.out.rd.str hsy0 (by omega) (by omega)).mono ?_
  rintro e w2 ⟨rfl, hb, hg⟩
  have HG1 := Lib.hid (HG.out.next hb hg)
  clear hb hg HG
  clear u0 u1 u2 u3 u4 u5 n0 n1 n2 n3 n4 n5 n6 z1 z2 z3 z4 z5 z6
  have b0 := Int.emod_nonneg (hd y0.2) (show (64 : Int) ≠ 0 by omega)
  have b1 := Int.emod_lt_of_pos (hd y0.2) (show (0 : Int) < 64 by omega)
  have hsz := tl_size y0.2
  obtain ⟨y1, HY1, HG⟩ : ∃ y : OpV × ByteArray, Hid (y = stepF 1 y0) ∧ Hid (FrSt w (w2.setCell ⟨ob, 2, none⟩ (.int .i64 (hd y0.2 % 64))) B y.2 lim2 cf v8 (.slice none 0 0) ps [] ob y.1 v7 xs ub #[.bool false, .bool true, .bool true, .bool false, .bool false, .bool false]) := ⟨_, rfl, HG1.out.set2 (hd y0.2 % 64)⟩
  have hsy1 : y1.2.size ≤ 3000 := by rw [HY1.out]; show (tl y0.2).size ≤ 3000; omega
  have HOP : Hid (y1.1 = { y0.1 with pos := hd y0.2 % 64 }) := by show _ = _; rw [HY1.out]; rfl
  clear hsz
  generalize hd y0.2 % 64 = x0 at *
  have u0 : w2.cell? ⟨ub, 0, none⟩ = some (.bool false) := HG1.out.cell 0
  have u1 : w2.cell? ⟨ub, 1, none⟩ = some (.bool true) := HG1.out.cell 1
  have u2 : w2.cell? ⟨ub, 2, none⟩ = some (.bool true) := HG1.out.cell 2
  have u3 : w2.cell? ⟨ub, 3, none⟩ = some (.bool false) := HG1.out.cell 3
  have u4 : w2.cell? ⟨ub, 4, none⟩ = some (.bool false) := HG1.out.cell 4
  have u5 : w2.cell? ⟨ub, 5, none⟩ = some (.bool false) := HG1.out.cell 5
  have n0 := HG1.out.op.op.c0
  have n1 := HG1.out.op.op.c1
  have n2 := HG1.out.op.op.c2
  have n3 := HG1.out.op.op.c3
  have n4 := HG1.out.op.op.c4
  have n5 := HG1.out.op.op.c5
  have n6 := HG1.out.op.op.c6
  rw [Nat.zero_add] at n1 n2 n3 n4 n5 n6
  have z1 := HG1.out.op.elem.frozen 1
  have z2 := HG1.out.op.elem.frozen 2
  have z3 := HG1.out.op.elem.frozen 3
  have z4 := HG1.out.op.elem.frozen 4
  have z5 := HG1.out.op.elem.frozen 5
  have z6 := HG1.out.op.elem.frozen 6
  clear HG1
  go_wp2_with fail
  refine (refNext 32 (B + 1) 56 y1.2 _ HG.out.rd.str hsy1 (by omega) (by omega)).mono ?_
  rintro e w3 ⟨rfl, hb, hg⟩
  have HG1 := Lib.hid (HG.out.next hb hg)
  clear hb hg HG
  clear u0 u1 u2 u3 u4 u5 n0 n1 n2 n3 n4 n5 n6 z1 z2 z3 z4 z5 z6
  have b0 := Int.emod_nonneg (hd y1.2) (show (32 : Int) ≠ 0 by omega)
  have b1 := Int.emod_lt_of_pos (hd y1.2) (show (0 : Int) < 32 by omega)
  have hsz := tl_size y1.2
  obtain ⟨y2, HY2, HG⟩ : ∃ y : OpV × ByteArray, Hid (y = stepF 2 y1) ∧ Hid (FrSt w (w3.setCell ⟨ob, 3, none⟩ (.int .i64 (hd y1.2 % 32))) B y.2 lim2 cf v8 (.slice none 0 0) ps [] ob y.1 v7 xs ub #[.bool false, .bool true, .bool true, .bool false, .bool false, .bool false]) := ⟨_, rfl, HG1.out.set3 (hd y1.2 % 32)⟩
  have hsy2 : y2.2.size ≤ 3000 := by rw [HY2.out]; show (tl y1.2).size ≤ 3000; omega
  have HOP : Hid (y2.1 = { y1.1 with num := hd y1.2 % 32 }) := by show _ = _; rw [HY2.out]; rfl
  clear hsz
  generalize hd y1.2 % 32 = x1 at *
  have u0 : w3.cell? ⟨ub, 0, none⟩ = some (.bool false) := HG1.out.cell 0
  have u1 : w3.cell? ⟨ub, 1, none⟩ = some (.bool true) := HG1.out.cell 1
  have u2 : w3.cell? ⟨ub, 2, none⟩ = some (.bool true) := HG1.out.cell 2
  have u3 : w3.cell? ⟨ub, 3, none⟩ = some (.bool false) := HG1.out.cell 3
  have u4 : w3.cell? ⟨ub, 4, none⟩ = some (.bool false) := HG1.out.cell 4
  have u5 : w3.cell? ⟨ub, 5, none⟩ = some (.bool false) := HG1.out.cell 5
  have n0 := HG1.out.op.op.c0
  have n1 := HG1.out.op.op.c1
  have n2 := HG1.out.op.op.c2
  have n3 := HG1.out.op.op.c3
  have n4 := HG1.out.op.op.c4
  have n5 := HG1.out.op.op.c5
  have n6 := HG1.out.op.op.c6
  rw [Nat.zero_add] at n1 n2 n3 n4 n5 n6
  have z1 := HG1.out.op.elem.frozen 1
  have z2 := HG1.out.op.elem.frozen 2
  have z3 := HG1.out.op.elem.frozen 3
  have z4 := HG1.out.op.elem.frozen 4
  have z5 := HG1.out.op.elem.frozen 5
  have z6 := HG1.out.op.elem.frozen 6
  clear HG1
  have HFD : Hid (foldF [1, 2] (op0 kd, st) = y2) := by
    show foldF [1, 2] (op0 kd, st) = y2
    rw [HY2.out, HY1.out, HY0.out]; rfl
  rw [HFD.out] at HX
  have HRD := Lib.hid HG.out.rd
  have HC := Lib.hid HG.out.cur
  have hl11 := Nat.le_of_lt (Nat.lt_of_le_of_lt HG.out.obl HG.out.op.elem.lt)
  have HSZ := Lib.hid hl11
  clear hl11
  obtain ⟨i0, hi, hz0, hz1, hz2⟩ := info_parts op_info
  go_wp2_with (at_builtin; refine wpList_append_own _ rfl _ _ 41 rfl lim2 44 i0 (.agg #[.int .u8 0, .int .i64 0, .int .i64 0, .int .i64 0, .int .u32 0, .int .u8 0, .string ⟨#[]⟩]) 7 56 Try.underlying41 hi hz0 hz1 hz2 rfl (by decide) _ _ _ rfl (HC.out.alloc _) ⟨w3.heap.size, 0, none⟩ 1 1 (opCells { y1.1 with num := x1 }) rfl rfl (news_op' _ _ _ _ (by simp)) (one_op _) ?c3 ?c4 ?c5 ?_)
  case c3 => unfold maxLen; omega
  case c4 => omega
  case c5 => exact Nat.le_trans HSZ.out (by simp)
  intro v' w20 hown hgrow _
  have HA := Lib.hid (ops_pushedR (o := { y1.1 with num := x1 }) HRD.out HC.out HSZ.out HL4.out hown hgrow)
  clear hown hgrow HRD HC
  go_wp2_with fail
  exact HX.out v' _ _ _ _ _ _ _ _ _ _ _ _ _ _ _ _ _ _ _ _ _ _ _ _ _ _ _ _ _ _ _ _ _ _ _ _ _ _ _ _ _ _ _ (by rw [HOP.out]; exact HA.out)

set_option maxHeartbeats 4000000 in
set_option maxRecDepth 100000 in
theorem refOp2 (w W : World) (B ob lim2 : Nat) (kd : Int) (st : ByteArray) (cf : CfgV) (v8 v7 : Value) (ps : List (List OpV)) (xs : List OpV)
    (c0 c1 c2 c4 c5 c6 c7 c9 c12 c13 c14 c15 c16 c17 c18 c19 c20 c21 c22 c23 c24 c25 c26 c27 c28 c29 c30 c31 c32 c33 c34 c35 c36 c37 c38 c39 c40 c41 c42 c43 c44 c45 c46 c47 c48 c49 c50 c51 c52 c53 c54 c55 c56 c57 c58 c59 c60 c61 c62 c63 c64 c65 c66 c67 c68 c69 c70 c71 c72 c73 c74 c75 c76 c77 c78 c79 c80 c81 c82 c83 c84 c126 c127 c128 c129 c130 c131 c132 c133 c134 c135 c136 c137 c138 c139 c140 c141 c142 c143 c144 c145 c146 c147 c148 c149 c150 c151 c152 c153 c154 c155 : Value) (u11 u85 u86 u87 u88 u89 u90 u91 u92 u93 u94 u95 u96 u97 u98 u99 u100 u101 u102 u103 u104 u105 u106 u107 u108 u109 u110 u111 u112 u113 u114 u115 u116 u117 u118 u119 u120 u121 u122 u123 u124 u125 : Value) (Q : Exit → Act → World → Prop)
    (hx : ∀ (v' u11 u85 u86 u87 u88 u89 u90 u91 u92 u93 u94 u95 u96 u97 u98 u99 u100 u101 u102 u103 u104 u105 u106 u107 u108 u109 u110 u111 u112 u113 u114 u115 u116 u117 u118 u119 u120 u121 u122 u123 u124 u125 : Value) (W' : World), Hid (RrSt w W' B (foldF [1, 3, 4] (op0 kd, st)).2 lim2 cf v8 (.slice none 0 0) ps [] ∧ CurRow W' lim2 v' (xs ++ [(foldF [1, 3, 4] (op0 kd, st)).1]) ∧ lim2 ≤ W'.heap.size) → Q .normal ⟨List.toArray (c0 :: c1 :: c2 :: (.pointer (some ⟨B + 1, 0, none⟩)) :: c4 :: c5 :: c6 :: c7 :: v' :: c9 :: (.pointer (some ⟨ob, 0, none⟩)) :: u11 :: c12 :: c13 :: c14 :: c15 :: c16 :: c17 :: c18 :: c19 :: c20 :: c21 :: c22 :: c23 :: c24 :: c25 :: c26 :: c27 :: c28 :: c29 :: c30 :: c31 :: c32 :: c33 :: c34 :: c35 :: c36 :: c37 :: c38 :: c39 :: c40 :: c41 :: c42 :: c43 :: c44 :: c45 :: c46 :: c47 :: c48 :: c49 :: c50 :: c51 :: c52 :: c53 :: c54 :: c55 :: c56 :: c57 :: c58 :: c59 :: c60 :: c61 :: c62 :: c63 :: c64 :: c65 :: c66 :: c67 :: c68 :: c69 :: c70 :: c71 :: c72 :: c73 :: c74 :: c75 :: c76 :: c77 :: c78 :: c79 :: c80 :: c81 :: c82 :: c83 :: c84 :: u85 :: u86 :: u87 :: u88 :: u89 :: u90 :: u91 :: u92 :: u93 :: u94 :: u95 :: u96 :: u97 :: u98 :: u99 :: u100 :: u101 :: u102 :: u103 :: u104 :: u105 :: u106 :: u107 :: u108 :: u109 :: u110 :: u111 :: u112 :: u113 :: u114 :: u115 :: u116 :: u117 :: u118 :: u119 :: u120 :: u121 :: u122 :: u123 :: u124 :: u125 :: c126 :: c127 :: c128 :: c129 :: c130 :: c131 :: c132 :: c133 :: c134 :: c135 :: c136 :: c137 :: c138 :: c139 :: c140 :: c141 :: c142 :: c143 :: c144 :: c145 :: c146 :: c147 :: c148 :: c149 :: c150 :: c151 :: c152 :: c153 :: c154 :: c155 :: []), []⟩ W')
    (HQ : Hid (RrSt w W B st lim2 cf v8 (.slice none 0 0) ps [])) (HC : Hid (CurRow W lim2 v7 xs)) (hl : Hid (lim2 ≤ W.heap.size)) (hob : Hid (W.heap.size = ob)) (HL4 : Hid (B + 1 + 1 + 1 ≤ lim2)) (hst : st.size ≤ 3000) (hxl : xs.length < 8)
    (hk1 : 1 ≤ kd) (hk2 : kd ≤ 16) (HU : Hid (usesVal kd = .agg #[.bool false, .bool true, .bool false, .bool true, .bool true, .bool false])) :
    Code.wp Try.prog body13o Q ⟨List.toArray (c0 :: c1 :: c2 :: (.pointer (some ⟨B + 1, 0, none⟩)) :: c4 :: c5 :: c6 :: c7 :: v7 :: c9 :: (.pointer (some ⟨ob, 0, none⟩)) :: u11 :: c12 :: c13 :: c14 :: c15 :: c16 :: c17 :: c18 :: c19 :: c20 :: c21 :: c22 :: c23 :: c24 :: c25 :: c26 :: c27 :: c28 :: c29 :: c30 :: c31 :: c32 :: c33 :: c34 :: c35 :: c36 :: c37 :: c38 :: c39 :: c40 :: c41 :: c42 :: c43 :: c44 :: c45 :: c46 :: c47 :: c48 :: c49 :: c50 :: c51 :: c52 :: c53 :: c54 :: c55 :: c56 :: c57 :: c58 :: c59 :: c60 :: c61 :: c62 :: c63 :: c64 :: c65 :: c66 :: c67 :: c68 :: c69 :: c70 :: c71 :: c72 :: c73 :: c74 :: c75 :: c76 :: c77 :: c78 :: c79 :: c80 :: c81 :: c82 :: c83 :: c84 :: u85 :: u86 :: u87 :: u88 :: u89 :: u90 :: u91 :: u92 :: u93 :: u94 :: u95 :: u96 :: u97 :: u98 :: u99 :: u100 :: u101 :: u102 :: u103 :: u104 :: u105 :: u106 :: u107 :: u108 :: u109 :: u110 :: u111 :: u112 :: u113 :: u114 :: u115 :: u116 :: u117 :: u118 :: u119 :: u120 :: u121 :: u122 :: u123 :: u124 :: u125 :: c126 :: c127 :: c128 :: c129 :: c130 :: c131 :: c132 :: c133 :: c134 :: c135 :: c136 :: c137 :: c138 :: c139 :: c140 :: c141 :: c142 :: c143 :: c144 :: c145 :: c146 :: c147 :: c148 :: c149 :: c150 :: c151 :: c152 :: c153 :: c154 :: c155 :: []), []⟩ (W.alloc (opObj kd)) := by
  have HX := Lib.hid hx
  clear hx
  conv => arg 2; whnf
  have n0 : (W.alloc (opObj kd)).cell? ⟨ob, 0, none⟩ = some (.int .u8 kd) := by rw [World.cell?_alloc_at _ _ _ _ hob.out.symm]; rfl
  go_wp2_with fail
  refine (usesFn kd _ (by omega) (by omega)).mono ?_
  rintro e w1 ⟨rfl, hg⟩
  rw [HU.out]
  obtain ⟨y0, HY0, HG⟩ : ∃ y0 : OpV × ByteArray, Hid (y0 = (op0 kd, st)) ∧ Hid (FrSt w (w1.alloc (.cells #[.bool false, .bool true, .bool false, .bool true, .bool true, .bool false] 57)) B y0.2 lim2 cf v8 (.slice none 0 0) ps [] ob y0.1 v7 xs w1.heap.size #[.bool false, .bool true, .bool false, .bool true, .bool true, .bool false]) := by
    refine ⟨_, rfl, ?_⟩
    have := frst_init (us := #[.bool false, .bool true, .bool false, .bool true, .bool true, .bool false]) HQ.out HC.out hl.out HL4.out hg
    rw [hob.out] at this
    exact this
  clear hg HQ HC n0
  have hub1 : ¬ w1.heap.size = ob := by
    intro e
    have h1 := HG.out.op.elem
    have h2 := HG.out.ut
    rw [e] at h2
    exact h1.ne h2 (by decide) rfl
  have hub2 : ¬ ob = w1.heap.size := fun e => hub1 e.symm
  have hsy0 : y0.2.size ≤ 3000 := by rw [HY0.out]; exact hst
  generalize hub : w1.heap.size = ub at *
  have HUB := Lib.hid hub
  have u0 : (w1.alloc (.cells #[.bool false, .bool true, .bool false, .bool true, .bool true, .bool false] 57)).cell? ⟨ub, 0, none⟩ = some (.bool false) := HG.out.cell 0
  have u1 : (w1.alloc (.cells #[.bool false, .bool true, .bool false, .bool true, .bool true, .bool false] 57)).cell? ⟨ub, 1, none⟩ = some (.bool true) := HG.out.cell 1
  have u2 : (w1.alloc (.cells #[.bool false, .bool true, .bool false, .bool true, .bool true, .bool false] 57)).cell? ⟨ub, 2, none⟩ = some (.bool false) := HG.out.cell 2
  have u3 : (w1.alloc (.cells #[.bool false, .bool true, .bool false, .bool true, .bool true, .bool false] 57)).cell? ⟨ub, 3, none⟩ = some (.bool true) := HG.out.cell 3
  have u4 : (w1.alloc (.cells #[.bool false, .bool true, .bool false, .bool true, .bool true, .bool false] 57)).cell? ⟨ub, 4, none⟩ = some (.bool true) := HG.out.cell 4
  have u5 : (w1.alloc (.cells #[.bool false, .bool true, .bool false, .bool true, .bool true, .bool false] 57)).cell? ⟨ub, 5, none⟩ = some (.bool false) := HG.out.cell 5
  have n0 := HG.out.op.op.c0
  have n1 := HG.out.op.op.c1
  have n2 := HG.out.op.op.c2
  have n3 := HG.out.op.op.c3
  have n4 := HG.out.op.op.c4
  have n5 := HG.out.op.op.c5
  have n6 := HG.out.op.op.c6
  rw [Nat.zero_add] at n1 n2 n3 n4 n5 n6
  have z1 := HG.out.op.elem.frozen 1
  have z2 := HG.out.op.elem.frozen 2
  have z3 := HG.out.op.elem.frozen 3
  have z4 := HG.out.op.elem.frozen 4
  have z5 := HG.out.op.elem.frozen 5
  have z6 := HG.out.op.elem.frozen 6
  go_wp2_with fail
  refine (refNext 64 (B + 1) 56 y0.2 _ HG.out.rd.str hsy0 (by omega) (by omega)).mono ?_
  rintro e w2 ⟨rfl, hb, hg⟩
  have HG1 := Lib.hid (HG.out.next hb hg)
  clear hb hg HG
  clear u0 u1 u2 u3 u4 u5 n0 n1 n2 n3 n4 n5 n6 z1 z2 z3 z4 z5 z6
  have b0 := Int.emod_nonneg (hd y0.2) (show (64 : Int) ≠ 0 by omega)
  have b1 := Int.emod_lt_of_pos (hd y0.2) (show (0 : Int) < 64 by omega)
  have hsz := tl_size y0.2
  obtain ⟨y1, HY1, HG⟩ : ∃ y : OpV × ByteArray, Hid (y = stepF 1 y0) ∧ Hid (FrSt w (w2.setCell ⟨ob, 2, none⟩ (.int .i64 (hd y0.2 % 64))) B y.2 lim2 cf v8 (.slice none 0 0) ps [] ob y.1 v7 xs ub #[.bool false, .bool true, .bool false, .bool true, .bool true, .bool false]) := ⟨_, rfl, HG1.out.set2 (hd y0.2 % 64)⟩
  have hsy1 : y1.2.size ≤ 3000 := by rw [HY1.out]; show (tl y0.2).size ≤ 3000; omega
  have HOP : Hid (y1.1 = { y0.1 with pos := hd y0.2 % 64 }) := by show _ = _; rw [HY1.out]; rfl
  clear hsz
  generalize hd y0.2 % 64 = x0 at *
  have u0 : w2.cell? ⟨ub, 0, none⟩ = some (.bool false) := HG1.out.cell 0
  have u1 : w2.cell? ⟨ub, 1, none⟩ = some (.bool true) := HG1.out.cell 1
  have u2 : w2.cell? ⟨ub, 2, none⟩ = some (.bool false) := HG1.out.cell 2
  have u3 : w2.cell? ⟨ub, 3, none⟩ = some (.bool true) := HG1.out.cell 3
  have u4 : w2.cell? ⟨ub, 4, none⟩ = some (.bool true) := HG1.out.cell 4
  have u5 : w2.cell? ⟨ub, 5, none⟩ = some (.bool false) := HG1.out.cell 5
  have n0 := HG1.out.op.op.c0
  have n1 := HG1.out.op.op.c1
  have n2 := HG1.out.op.op.c2
  have n3 := HG1.out.op.op.c3
  have n4 := HG1.out.op.op.c4
  have n5 := HG1.out.op.op.c5
  have n6 := HG1.out.op.op.c6
  rw [Nat.zero_add] at n1 n2 n3 n4 n5 n6
  have z1 := HG1.out.op.elem.frozen 1
  have z2 := HG1.out.op.elem.frozen 2
  have z3 := HG1.out.op.elem.frozen 3
  have z4 := HG1.out.op.elem.frozen 4
  have z5 := HG1.out.op.elem.frozen 5
  have z6 := HG1.out.op.elem.frozen 6
  clear HG1
  go_wp2_with fail
  refine (refNext 4 (B + 1) 56 y1.2 _ HG.out.rd.str hsy1 (by omega) (by omega)).mono ?_
  rintro e w3 ⟨rfl, hb, hg⟩
  have HG1 := Lib.hid (HG.out.next hb hg)
  clear hb hg HG
  clear u0 u1 u2 u3 u4 u5 n0 n1 n2 n3 n4 n5 n6 z1 z2 z3 z4 z5 z6
  have b0 := Int.emod_nonneg (hd y1.2) (show (4 : Int) ≠ 0 by omega)
  have b1 := Int.emod_lt_of_pos (hd y1.2) (show (0 : Int) < 4 by omega)
  have hsz := tl_size y1.2
  obtain ⟨y2, HY2, HG⟩ : ∃ y : OpV × ByteArray, Hid (y = stepF 3 y1) ∧ Hid (FrSt w (w3.setCell ⟨ob, 4, none⟩ (.int .u32 (hd y1.2 % 4))) B y.2 lim2 cf v8 (.slice none 0 0) ps [] ob y.1 v7 xs ub #[.bool false, .bool true, .bool false, .bool true, .bool true, .bool false]) := ⟨_, rfl, HG1.out.set4 (hd y1.2 % 4)⟩
  have hsy2 : y2.2.size ≤ 3000 := by rw [HY2.out]; show (tl y1.2).size ≤ 3000; omega
  have HOP : Hid (y2.1 = { y1.1 with id := hd y1.2 % 4 }) := by show _ = _; rw [HY2.out]; rfl
  clear hsz
  generalize hd y1.2 % 4 = x1 at *
  have u0 : w3.cell? ⟨ub, 0, none⟩ = some (.bool false) := HG1.out.cell 0
  have u1 : w3.cell? ⟨ub, 1, none⟩ = some (.bool true) := HG1.out.cell 1
  have u2 : w3.cell? ⟨ub, 2, none⟩ = some (.bool false) := HG1.out.cell 2
  have u3 : w3.cell? ⟨ub, 3, none⟩ = some (.bool true) := HG1.out.cell 3
  have u4 : w3.cell? ⟨ub, 4, none⟩ = some (.bool true) := HG1.out.cell 4
  have u5 : w3.cell? ⟨ub, 5, none⟩ = some (.bool false) := HG1.out.cell 5
  have n0 := HG1.out.op.op.c0
  have n1 := HG1.out.op.op.c1
  have n2 := HG1.out.op.op.c2
  have n3 := HG1.out.op.op.c3
  have n4 := HG1.out.op.op.c4
  have n5 := HG1.out.op.op.c5
  have n6 := HG1.out.op.op.c6
  rw [Nat.zero_add] at n1 n2 n3 n4 n5 n6
  have z1 := HG1.out.op.elem.frozen 1
  have z2 := HG1.out.op.elem.frozen 2
  have z3 := HG1.out.op.elem.frozen 3
  have z4 := HG1.out.op.elem.frozen 4
  have z5 := HG1.out.op.elem.frozen 5
  have z6 := HG1.out.op.elem.frozen 6
  clear HG1
  go_wp2_with fail
  refine (refNext 2 (B + 1) 56 y2.2 _ HG.out.rd.str hsy2 (by omega) (by omega)).mono ?_
  rintro e w4 ⟨rfl, hb, hg⟩
  have HG1 := Lib.hid (HG.out.next hb hg)
  clear hb hg HG
  clear u0 u1 u2 u3 u4 u5 n0 n1 n2 n3 n4 n5 n6 z1 z2 z3 z4 z5 z6
  have b0 := Int.emod_nonneg (hd y2.2) (show (2 : Int) ≠ 0 by omega)
  have b1 := Int.emod_lt_of_pos (hd y2.2) (show (0 : Int) < 2 by omega)
  have hsz := tl_size y2.2
  obtain ⟨y3, HY3, HG⟩ : ∃ y : OpV × ByteArray, Hid (y = stepF 4 y2) ∧ Hid (FrSt w (w4.setCell ⟨ob, 5, none⟩ (.int .u8 (hd y2.2 % 2))) B y.2 lim2 cf v8 (.slice none 0 0) ps [] ob y.1 v7 xs ub #[.bool false, .bool true, .bool false, .bool true, .bool true, .bool false]) := ⟨_, rfl, HG1.out.set5 (hd y2.2 % 2)⟩
  have hsy3 : y3.2.size ≤ 3000 := by rw [HY3.out]; show (tl y2.2).size ≤ 3000; omega
  have HOP : Hid (y3.1 = { y2.1 with grav := hd y2.2 % 2 }) := by show _ = _; rw [HY3.out]; rfl
  clear hsz
  generalize hd y2.2 % 2 = x2 at *
  have u0 : w4.cell? ⟨ub, 0, none⟩ = some (.bool false) := HG1.out.cell 0
  have u1 : w4.cell? ⟨ub, 1, none⟩ = some (.bool true) := HG1.out.cell 1
  have u2 : w4.cell? ⟨ub, 2, none⟩ = some (.bool false) := HG1.out.cell 2
  have u3 : w4.cell? ⟨ub, 3, none⟩ = some (.bool true) := HG1.out.cell 3
  have u4 : w4.cell? ⟨ub, 4, none⟩ = some (.bool true) := HG1.out.cell 4
  have u5 : w4.cell? ⟨ub, 5, none⟩ = some (.bool false) := HG1.out.cell 5
  have n0 := HG1.out.op.op.c0
  have n1 := HG1.out.op.op.c1
  have n2 := HG1.out.op.op.c2
  have n3 := HG1.out.op.op.c3
  have n4 := HG1.out.op.op.c4
  have n5 := HG1.out.op.op.c5
  have n6 := HG1.out.op.op.c6
  rw [Nat.zero_add] at n1 n2 n3 n4 n5 n6
  have z1 := HG1.out.op.elem.frozen 1
  have z2 := HG1.out.op.elem.frozen 2
  have z3 := HG1.out.op.elem.frozen 3
  have z4 := HG1.out.op.elem.frozen 4
  have z5 := HG1.out.op.elem.frozen 5
  have z6 := HG1.out.op.elem.frozen 6
  clear HG1
  have HFD : Hid (foldF [1, 3, 4] (op0 kd, st) = y3) := by
    show foldF [1, 3, 4] (op0 kd, st) = y3
    rw [HY3.out, HY2.out, HY1.out, HY0.out]; rfl
  rw [HFD.out] at HX
  have HRD := Lib.hid HG.out.rd
  have HC := Lib.hid HG.out.cur
  have hl11 := Nat.le_of_lt (Nat.lt_of_le_of_lt HG.out.obl HG.out.op.elem.lt)
  have HSZ := Lib.hid hl11
  clear hl11
  obtain ⟨i0, hi, hz0, hz1, hz2⟩ := info_parts op_info
  go_wp2_with (at_builtin; refine wpList_append_own _ rfl _ _ 41 rfl lim2 44 i0 (.agg #[.int .u8 0, .int .i64 0, .int .i64 0, .int .i64 0, .int .u32 0, .int .u8 0, .string ⟨#[]⟩]) 7 56 Try.underlying41 hi hz0 hz1 hz2 rfl (by decide) _ _ _ rfl (HC.out.alloc _) ⟨w4.heap.size, 0, none⟩ 1 1 (opCells { y2.1 with grav := x2 }) rfl rfl (news_op' _ _ _ _ (by simp)) (one_op _) ?c3 ?c4 ?c5 ?_)
  case c3 => unfold maxLen; omega
  case c4 => omega
  case c5 => exact Nat.le_trans HSZ.out (by simp)
  intro v' w20 hown hgrow _
  have HA := Lib.hid (ops_pushedR (o := { y2.1 with grav := x2 }) HRD.out HC.out HSZ.out HL4.out hown hgrow)
  clear hown hgrow HRD HC
  go_wp2_with fail
  exact HX.out v' _ _ _ _ _ _ _ _ _ _ _ _ _ _ _ _ _ _ _ _ _ _ _ _ _ _ _ _ _ _ _ _ _ _ _ _ _ _ _ _ _ _ _ (by rw [HOP.out]; exact HA.out)

set_option maxHeartbeats 4000000 in
set_option maxRecDepth 100000 in
theorem refOp3 (w W : World) (B ob lim2 : Nat) (kd : Int) (st : ByteArray) (cf : CfgV) (v8 v7 : Value) (ps : List (List OpV)) (xs : List OpV)
    (c0 c1 c2 c4 c5 c6 c7 c9 c12 c13 c14 c15 c16 c17 c18 c19 c20 c21 c22 c23 c24 c25 c26 c27 c28 c29 c30 c31 c32 c33 c34 c35 c36 c37 c38 c39 c40 c41 c42 c43 c44 c45 c46 c47 c48 c49 c50 c51 c52 c53 c54 c55 c56 c57 c58 c59 c60 c61 c62 c63 c64 c65 c66 c67 c68 c69 c70 c71 c72 c73 c74 c75 c76 c77 c78 c79 c80 c81 c82 c83 c84 c126 c127 c128 c129 c130 c131 c132 c133 c134 c135 c136 c137 c138 c139 c140 c141 c142 c143 c144 c145 c146 c147 c148 c149 c150 c151 c152 c153 c154 c155 : Value) (u11 u85 u86 u87 u88 u89 u90 u91 u92 u93 u94 u95 u96 u97 u98 u99 u100 u101 u102 u103 u104 u105 u106 u107 u108 u109 u110 u111 u112 u113 u114 u115 u116 u117 u118 u119 u120 u121 u122 u123 u124 u125 : Value) (Q : Exit → Act → World → Prop)
    (hx : ∀ (v' u11 u85 u86 u87 u88 u89 u90 u91 u92 u93 u94 u95 u96 u97 u98 u99 u100 u101 u102 u103 u104 u105 u106 u107 u108 u109 u110 u111 u112 u113 u114 u115 u116 u117 u118 u119 u120 u121 u122 u123 u124 u125 : Value) (W' : World), Hid (RrSt w W' B (foldF [3] (op0 kd, st)).2 lim2 cf v8 (.slice none 0 0) ps [] ∧ CurRow W' lim2 v' (xs ++ [(foldF [3] (op0 kd, st)).1]) ∧ lim2 ≤ W'.heap.size) → Q .normal ⟨List.toArray (c0 :: c1 :: c2 :: (.pointer (some ⟨B + 1, 0, none⟩)) :: c4 :: c5 :: c6 :: c7 :: v' :: c9 :: (.pointer (some ⟨ob, 0, none⟩)) :: u11 :: c12 :: c13 :: c14 :: c15 :: c16 :: c17 :: c18 :: c19 :: c20 :: c21 :: c22 :: c23 :: c24 :: c25 :: c26 :: c27 :: c28 :: c29 :: c30 :: c31 :: c32 :: c33 :: c34 :: c35 :: c36 :: c37 :: c38 :: c39 :: c40 :: c41 :: c42 :: c43 :: c44 :: c45 :: c46 :: c47 :: c48 :: c49 :: c50 :: c51 :: c52 :: c53 :: c54 :: c55 :: c56 :: c57 :: c58 :: c59 :: c60 :: c61 :: c62 :: c63 :: c64 :: c65 :: c66 :: c67 :: c68 :: c69 :: c70 :: c71 :: c72 :: c73 :: c74 :: c75 :: c76 :: c77 :: c78 :: c79 :: c80 :: c81 :: c82 :: c83 :: c84 :: u85 :: u86 :: u87 :: u88 :: u89 :: u90 :: u91 :: u92 :: u93 :: u94 :: u95 :: u96 :: u97 :: u98 :: u99 :: u100 :: u101 :: u102 :: u103 :: u104 :: u105 :: u106 :: u107 :: u108 :: u109 :: u110 :: u111 :: u112 :: u113 :: u114 :: u115 :: u116 :: u117 :: u118 :: u119 :: u120 :: u121 :: u122 :: u123 :: u124 :: u125 :: c126 :: c127 :: c128 :: c129 :: c130 :: c131 :: c132 :: c133 :: c134 :: c135 :: c136 :: c137 :: c138 :: c139 :: c140 :: c141 :: c142 :: c143 :: c144 :: c145 :: c146 :: c147 :: c148 :: c149 :: c150 :: c151 :: c152 :: c153 :: c154 :: c155 :: []), []⟩ W')
    (HQ : Hid (RrSt w W B st lim2 cf v8 (.slice none 0 0) ps [])) (HC : Hid (CurRow W lim2 v7 xs)) (hl : Hid (lim2 ≤ W.heap.size)) (hob : Hid (W.heap.size = ob)) (HL4 : Hid (B + 1 + 1 + 1 ≤ lim2)) (hst : st.size ≤ 3000) (hxl : xs.length < 8)
    (hk1 : 1 ≤ kd) (hk2 : kd ≤ 16) (HU : Hid (usesVal kd = .agg #[.bool false, .bool false, .bool false, .bool true, .bool false, .bool false])) :
    Code.wp Try.prog body13o Q ⟨List.toArray (c0 :: c1 :: c2 :: (.pointer (some ⟨B + 1, 0, none⟩)) :: c4 :: c5 :: c6 :: c7 :: v7 :: c9 :: (.pointer (some ⟨ob, 0, none⟩)) :: u11 :: c12 :: c13 :: c14 :: c15 :: c16 :: c17 :: c18 :: c19 :: c20 :: c21 :: c22 :: c23 :: c24 :: c25 :: c26 :: c27 :: c28 :: c29 :: c30 :: c31 :: c32 :: c33 :: c34 :: c35 :: c36 :: c37 :: c38 :: c39 :: c40 :: c41 :: c42 :: c43 :: c44 :: c45 :: c46 :: c47 :: c48 :: c49 :: c50 :: c51 :: c52 :: c53 :: c54 :: c55 :: c56 :: c57 :: c58 :: c59 :: c60 :: c61 :: c62 :: c63 :: c64 :: c65 :: c66 :: c67 :: c68 :: c69 :: c70 :: c71 :: c72 :: c73 :: c74 :: c75 :: c76 :: c77 :: c78 :: c79 :: c80 :: c81 :: c82 :: c83 :: c84 :: u85 :: u86 :: u87 :: u88 :: u89 :: u90 :: u91 :: u92 :: u93 :: u94 :: u95 :: u96 :: u97 :: u98 :: u99 :: u100 :: u101 :: u102 :: u103 :: u104 :: u105 :: u106 :: u107 :: u108 :: u109 :: u110 :: u111 :: u112 :: u113 :: u114 :: u115 :: u116 :: u117 :: u118 :: u119 :: u120 :: u121 :: u122 :: u123 :: u124 :: u125 :: c126 :: c127 :: c128 :: c129 :: c130 :: c131 :: c132 :: c133 :: c134 :: c135 :: c136 :: c137 :: c138 :: c139 :: c140 :: c141 :: c142 :: c143 :: c144 :: c145 :: c146 :: c147 :: c148 :: c149 :: c150 :: c151 :: c152 :: c153 :: c154 :: c155 :: []), []⟩ (W.alloc (opObj kd)) := by
  have HX := Lib.hid hx
  clear hx
  conv => arg 2; whnf
  have n0 : (W.alloc (opObj kd)).cell? ⟨ob, 0, none⟩ = some (.int .u8 kd) := by rw [World.cell?_alloc_at _ _ _ _ hob.out.symm]; rfl
  go_wp2_with fail
  refine (usesFn kd _ (by omega) (by omega)).mono ?_
  rintro e w1 ⟨rfl, hg⟩
  rw [HU.out]
  obtain ⟨y0, HY0, HG⟩ : ∃ y0 : OpV × ByteArray, Hid (y0 = (op0 kd, st)) ∧ Hid (FrSt w (w1.alloc (.cells #[.bool false, .bool false, .bool false, .bool true, .bool false, .bool false] 57)) B y0.2 lim2 cf v8 (.slice none 0 0) ps [] ob y0.1 v7 xs w1.heap.size #[.bool false, .bool false, .bool false, .bool true, .bool false, .bool false]) := by
    refine ⟨_, rfl, ?_⟩
    have := frst_init (us := #[.bool false, .bool false, .bool false, .bool true, .bool false, .bool false]) HQ.out HC.out hl.out HL4.out hg
    rw [hob.out] at this
    exact this
  clear hg HQ HC n0
  have hub1 : ¬ w1.heap.size = ob := by
    intro e
    have h1 := HG.out.op.elem
    have h2 := HG.out.ut
    rw [e] at h2
    exact h1.ne h2 (by decide) rfl
  have hub2 : ¬ ob = w1.heap.size := fun e => hub1 e.symm
  have hsy0 : y0.2.size ≤ 3000 := by rw [HY0.out]; exact hst
  generalize hub : w1.heap.size = ub at *
  have HUB := Lib.hid hub
  have u0 : (w1.alloc (.cells #[.bool false, .bool false, .bool false, .bool true, .bool false, .bool false] 57)).cell? ⟨ub, 0, none⟩ = some (.bool false) := HG.out.cell 0
  have u1 : (w1.alloc (.cells #[.bool false, .bool false, .bool false, .bool true, .bool false, .bool false] 57)).cell? ⟨ub, 1, none⟩ = some (.bool false) := HG.out.cell 1
  have u2 : (w1.alloc (.cells #[.bool false, .bool false, .bool false, .bool true, .bool false, .bool false] 57)).cell? ⟨ub, 2, none⟩ = some (.bool false) := HG.out.cell 2
  have u3 : (w1.alloc (.cells #[.bool false, .bool false, .bool false, .bool true, .bool false, .bool false] 57)).cell? ⟨ub, 3, none⟩ = some (.bool true) := HG.out.cell 3
  have u4 : (w1.alloc (.cells #[.bool false, .bool false, .bool false, .bool true, .bool false, .bool false] 57)).cell? ⟨ub, 4, none⟩ = some (.bool false) := HG.out.cell 4
  have u5 : (w1.alloc (.cells #[.bool false, .bool false, .bool false, .bool true, .bool false, .bool false] 57)).cell? ⟨ub, 5, none⟩ = some (.bool false) := HG.out.cell 5
  have n0 := HG.out.op.op.c0
  have n1 := HG.out.op.op.c1
  have n2 := HG.out.op.op.c2
  have n3 := HG.out.op.op.c3
  have n4 := HG.out.op.op.c4
  have n5 := HG.out.op.op.c5
  have n6 := HG.out.op.op.c6
  rw [Nat.zero_add] at n1 n2 n3 n4 n5 n6
  have z1 := HG.out.op.elem.frozen 1
  have z2 := HG.out.op.elem.frozen 2
  have z3 := HG.out.op.elem.frozen 3
  have z4 := HG.out.op.elem.frozen 4
  have z5 := HG.out.op.elem.frozen 5
  have z6 := HG.out.op.elem.frozen 6
  go_wp2_with fail
  refine (refNext 4 (B + 1) 56 y0.2 _ HG.out.rd.str hsy0 (by omega) (by omega)).mono ?_
  rintro e w2 ⟨rfl, hb, hg⟩
  have HG1 := Lib.hid (HG.out.next hb hg)
  clear hb hg HG
  clear u0 u1 u2 u3 u4 u5 n0 n1 n2 n3 n4 n5 n6 z1 z2 z3 z4 z5 z6
  have b0 := Int.emod_nonneg (hd y0.2) (show (4 : Int) ≠ 0 by omega)
  have b1 := Int.emod_lt_of_pos (hd y0.2) (show (0 : Int) < 4 by omega)
  have hsz := tl_size y0.2
  obtain ⟨y1, HY1, HG⟩ : ∃ y : OpV × ByteArray, Hid (y = stepF 3 y0) ∧ Hid (FrSt w (w2.setCell ⟨ob, 4, none⟩ (.int .u32 (hd y0.2 % 4))) B y.2 lim2 cf v8 (.slice none 0 0) ps [] ob y.1 v7 xs ub #[.bool false, .bool false, .bool false, .bool true, .bool false, .bool false]) := ⟨_, rfl, HG1.out.set4 (hd y0.2 % 4)⟩
  have hsy1 : y1.2.size ≤ 3000 := by rw [HY1.out]; show (tl y0.2).size ≤ 3000; omega
  have HOP : Hid (y1.1 = { y0.1 with id := hd y0.2 % 4 }) := by show _ = _; rw [HY1.out]; rfl
  clear hsz
  generalize hd y0.2 % 4 = x0 at *
  have u0 : w2.cell? ⟨ub, 0, none⟩ = some (.bool false) := HG1.out.cell 0
  have u1 : w2.cell? ⟨ub, 1, none⟩ = some (.bool false) := HG1.out.cell 1
  have u2 : w2.cell? ⟨ub, 2, none⟩ = some (.bool false) := HG1.out.cell 2
  have u3 : w2.cell? ⟨ub, 3, none⟩ = some (.bool true) := HG1.out.cell 3
  have u4 : w2.cell? ⟨ub, 4, none⟩ = some (.bool false) := HG1.out.cell 4
  have u5 : w2.cell? ⟨ub, 5, none⟩ = some (.bool false) := HG1.out.cell 5
  have n0 := HG1.out.op.op.c0
  have n1 := HG1.out.op.op.c1
  have n2 := HG1.out.op.op.c2
  have n3 := HG1.out.op.op.c3
  have n4 := HG1.out.op.op.c4
  have n5 := HG1.out.op.op.c5
  have n6 := HG1.out.op.op.c6
  rw [Nat.zero_add] at n1 n2 n3 n4 n5 n6
  have z1 := HG1.out.op.elem.frozen 1
  have z2 := HG1.out.op.elem.frozen 2
  have z3 := HG1.out.op.elem.frozen 3
  have z4 := HG1.out.op.elem.frozen 4
  have z5 := HG1.out.op.elem.frozen 5
  have z6 := HG1.out.op.elem.frozen 6
  clear HG1
  have HFD : Hid (foldF [3] (op0 kd, st) = y1) := by
    show foldF [3] (op0 kd, st) = y1
    rw [HY1.out, HY0.out]; rfl
  rw [HFD.out] at HX
  have HRD := Lib.hid HG.out.rd
  have HC := Lib.hid HG.out.cur
  have hl11 := Nat.le_of_lt (Nat.lt_of_le_of_lt HG.out.obl HG.out.op.elem.lt)
  have HSZ := Lib.hid hl11
  clear hl11
  obtain ⟨i0, hi, hz0, hz1, hz2⟩ := info_parts op_info
  go_wp2_with (at_builtin; refine wpList_append_own _ rfl _ _ 41 rfl lim2 44 i0 (.agg #[.int .u8 0, .int .i64 0, .int .i64 0, .int .i64 0, .int .u32 0, .int .u8 0, .string ⟨#[]⟩]) 7 56 Try.underlying41 hi hz0 hz1 hz2 rfl (by decide) _ _ _ rfl (HC.out.alloc _) ⟨w2.heap.size, 0, none⟩ 1 1 (opCells { y0.1 with id := x0 }) rfl rfl (news_op' _ _ _ _ (by simp)) (one_op _) ?c3 ?c4 ?c5 ?_)
  case c3 => unfold maxLen; omega
  case c4 => omega
  case c5 => exact Nat.le_trans HSZ.out (by simp)
  intro v' w20 hown hgrow _
  have HA := Lib.hid (ops_pushedR (o := { y0.1 with id := x0 }) HRD.out HC.out HSZ.out HL4.out hown hgrow)
  clear hown hgrow HRD HC
  go_wp2_with fail
  exact HX.out v' _ _ _ _ _ _ _ _ _ _ _ _ _ _ _ _ _ _ _ _ _ _ _ _ _ _ _ _ _ _ _ _ _ _ _ _ _ _ _ _ _ _ _ (by rw [HOP.out]; exact HA.out)

set_option maxHeartbeats 4000000 in
set_option maxRecDepth 100000 in
theorem refOp4 (w W : World) (B ob lim2 : Nat) (kd : Int) (st : ByteArray) (cf : CfgV) (v8 v7 : Value) (ps : List (List OpV)) (xs : List OpV)
    (c0 c1 c2 c4 c5 c6 c7 c9 c12 c13 c14 c15 c16 c17 c18 c19 c20 c21 c22 c23 c24 c25 c26 c27 c28 c29 c30 c31 c32 c33 c34 c35 c36 c37 c38 c39 c40 c41 c42 c43 c44 c45 c46 c47 c48 c49 c50 c51 c52 c53 c54 c55 c56 c57 c58 c59 c60 c61 c62 c63 c64 c65 c66 c67 c68 c69 c70 c71 c72 c73 c74 c75 c76 c77 c78 c79 c80 c81 c82 c83 c84 c126 c127 c128 c129 c130 c131 c132 c133 c134 c135 c136 c137 c138 c139 c140 c141 c142 c143 c144 c145 c146 c147 c148 c149 c150 c151 c152 c153 c154 c155 : Value) (u11 u85 u86 u87 u88 u89 u90 u91 u92 u93 u94 u95 u96 u97 u98 u99 u100 u101 u102 u103 u104 u105 u106 u107 u108 u109 u110 u111 u112 u113 u114 u115 u116 u117 u118 u119 u120 u121 u122 u123 u124 u125 : Value) (Q : Exit → Act → World → Prop)
    (hx : ∀ (v' u11 u85 u86 u87 u88 u89 u90 u91 u92 u93 u94 u95 u96 u97 u98 u99 u100 u101 u102 u103 u104 u105 u106 u107 u108 u109 u110 u111 u112 u113 u114 u115 u116 u117 u118 u119 u120 u121 u122 u123 u124 u125 : Value) (W' : World), Hid (RrSt w W' B (foldF [] (op0 kd, st)).2 lim2 cf v8 (.slice none 0 0) ps [] ∧ CurRow W' lim2 v' (xs ++ [(foldF [] (op0 kd, st)).1]) ∧ lim2 ≤ W'.heap.size) → Q .normal ⟨List.toArray (c0 :: c1 :: c2 :: (.pointer (some ⟨B + 1, 0, none⟩)) :: c4 :: c5 :: c6 :: c7 :: v' :: c9 :: (.pointer (some ⟨ob, 0, none⟩)) :: u11 :: c12 :: c13 :: c14 :: c15 :: c16 :: c17 :: c18 :: c19 :: c20 :: c21 :: c22 :: c23 :: c24 :: c25 :: c26 :: c27 :: c28 :: c29 :: c30 :: c31 :: c32 :: c33 :: c34 :: c35 :: c36 :: c37 :: c38 :: c39 :: c40 :: c41 :: c42 :: c43 :: c44 :: c45 :: c46 :: c47 :: c48 :: c49 :: c50 :: c51 :: c52 :: c53 :: c54 :: c55 :: c56 :: c57 :: c58 :: c59 :: c60 :: c61 :: c62 :: c63 :: c64 :: c65 :: c66 :: c67 :: c68 :: c69 :: c70 :: c71 :: c72 :: c73 :: c74 :: c75 :: c76 :: c77 :: c78 :: c79 :: c80 :: c81 :: c82 :: c83 :: c84 :: u85 :: u86 :: u87 :: u88 :: u89 :: u90 :: u91 :: u92 :: u93 :: u94 :: u95 :: u96 :: u97 :: u98 :: u99 :: u100 :: u101 :: u102 :: u103 :: u104 :: u105 :: u106 :: u107 :: u108 :: u109 :: u110 :: u111 :: u112 :: u113 :: u114 :: u115 :: u116 :: u117 :: u118 :: u119 :: u120 :: u121 :: u122 :: u123 :: u124 :: u125 :: c126 :: c127 :: c128 :: c129 :: c130 :: c131 :: c132 :: c133 :: c134 :: c135 :: c136 :: c137 :: c138 :: c139 :: c140 :: c141 :: c142 :: c143 :: c144 :: c145 :: c146 :: c147 :: c148 :: c149 :: c150 :: c151 :: c152 :: c153 :: c154 :: c155 :: []), []⟩ W')
    (HQ : Hid (RrSt w W B st lim2 cf v8 (.slice none 0 0) ps [])) (HC : Hid (CurRow W lim2 v7 xs)) (hl : Hid (lim2 ≤ W.heap.size)) (hob : Hid (W.heap.size = ob)) (HL4 : Hid (B + 1 + 1 + 1 ≤ lim2)) (hst : st.size ≤ 3000) (hxl : xs.length < 8)
    (hk1 : 1 ≤ kd) (hk2 : kd ≤ 16) (HU : Hid (usesVal kd = .agg #[.bool false, .bool false, .bool false, .bool false, .bool false, .bool false])) :
    Code.wp Try.prog body13o Q ⟨List.toArray (c0 :: c1 :: c2 :: (.pointer (some ⟨B + 1, 0, none⟩)) :: c4 :: c5 :: c6 :: c7 :: v7 :: c9 :: (.pointer (some ⟨ob, 0, none⟩)) :: u11 :: c12 :: c13 :: c14 :: c15 :: c16 :: c17 :: c18 :: c19 :: c20 :: c21 :: c22 :: c23 :: c24 :: c25 :: c26 :: c27 :: c28 :: c29 :: c30 :: c31 :: c32 :: c33 :: c34 :: c35 :: c36 :: c37 :: c38 :: c39 :: c40 :: c41 :: c42 :: c43 :: c44 :: c45 :: c46 :: c47 :: c48 :: c49 :: c50 :: c51 :: c52 :: c53 :: c54 :: c55 :: c56 :: c57 :: c58 :: c59 :: c60 :: c61 :: c62 :: c63 :: c64 :: c65 :: c66 :: c67 :: c68 :: c69 :: c70 :: c71 :: c72 :: c73 :: c74 :: c75 :: c76 :: c77 :: c78 :: c79 :: c80 :: c81 :: c82 :: c83 :: c84 :: u85 :: u86 :: u87 :: u88 :: u89 :: u90 :: u91 :: u92 :: u93 :: u94 :: u95 :: u96 :: u97 :: u98 :: u99 :: u100 :: u101 :: u102 :: u103 :: u104 :: u105 :: u106 :: u107 :: u108 :: u109 :: u110 :: u111 :: u112 :: u113 :: u114 :: u115 :: u116 :: u117 :: u118 :: u119 :: u120 :: u121 :: u122 :: u123 :: u124 :: u125 :: c126 :: c127 :: c128 :: c129 :: c130 :: c131 :: c132 :: c133 :: c134 :: c135 :: c136 :: c137 :: c138 :: c139 :: c140 :: c141 :: c142 :: c143 :: c144 :: c145 :: c146 :: c147 :: c148 :: c149 :: c150 :: c151 :: c152 :: c153 :: c154 :: c155 :: []), []⟩ (W.alloc (opObj kd)) := by
  have HX := Lib.hid hx
  clear hx
  conv => arg 2; whnf
  have n0 : (W.alloc (opObj kd)).cell? ⟨ob, 0, none⟩ = some (.int .u8 kd) := by rw [World.cell?_alloc_at _ _ _ _ hob.out.symm]; rfl
  go_wp2_with fail
  refine (usesFn kd _ (by omega) (by omega)).mono ?_
  rintro e w1 ⟨rfl, hg⟩
  rw [HU.out]
  obtain ⟨y0, HY0, HG⟩ : ∃ y0 : OpV × ByteArray, Hid (y0 = (op0 kd, st)) ∧ Hid (FrSt w (w1.alloc (.cells #[.bool false, .bool false, .bool false, .bool false, .bool false, .bool false] 57)) B y0.2 lim2 cf v8 (.slice none 0 0) ps [] ob y0.1 v7 xs w1.heap.size #[.bool false, .bool false, .bool false, .bool false, .bool false, .bool false]) := by
    refine ⟨_, rfl, ?_⟩
    have := frst_init (us := #[.bool false, .bool false, .bool false, .bool false, .bool false, .bool false]) HQ.out HC.out hl.out HL4.out hg
    rw [hob.out] at this
    exact this
  clear hg HQ HC n0
  have hub1 : ¬ w1.heap.size = ob := by
    intro e
    have h1 := HG.out.op.elem
    have h2 := HG.out.ut
    rw [e] at h2
    exact h1.ne h2 (by decide) rfl
  have hub2 : ¬ ob = w1.heap.size := fun e => hub1 e.symm
  have hsy0 : y0.2.size ≤ 3000 := by rw [HY0.out]; exact hst
  generalize hub : w1.heap.size = ub at *
  have HUB := Lib.hid hub
  have u0 : (w1.alloc (.cells #[.bool false, .bool false, .bool false, .bool false, .bool false, .bool false] 57)).cell? ⟨ub, 0, none⟩ = some (.bool false) := HG.out.cell 0
  have u1 : (w1.alloc (.cells #[.bool false, .bool false, .bool false, .bool false, .bool false, .bool false] 57)).cell? ⟨ub, 1, none⟩ = some (.bool false) := HG.out.cell 1
  have u2 : (w1.alloc (.cells #[.bool false, .bool false, .bool false, .bool false, .bool false, .bool false] 57)).cell? ⟨ub, 2, none⟩ = some (.bool false) := HG.out.cell 2
  have u3 : (w1.alloc (.cells #[.bool false, .bool false, .bool false, .bool false, .bool false, .bool false] 57)).cell? ⟨ub, 3, none⟩ = some (.bool false) := HG.out.cell 3
  have u4 : (w1.alloc (.cells #[.bool false, .bool false, .bool false, .bool false, .bool false, .bool false] 57)).cell? ⟨ub, 4, none⟩ = some (.bool false) := HG.out.cell 4
  have u5 : (w1.alloc (.cells #[.bool false, .bool false, .bool false, .bool false, .bool false, .bool false] 57)).cell? ⟨ub, 5, none⟩ = some (.bool false) := HG.out.cell 5
  have n0 := HG.out.op.op.c0
  have n1 := HG.out.op.op.c1
  have n2 := HG.out.op.op.c2
  have n3 := HG.out.op.op.c3
  have n4 := HG.out.op.op.c4
  have n5 := HG.out.op.op.c5
  have n6 := HG.out.op.op.c6
  rw [Nat.zero_add] at n1 n2 n3 n4 n5 n6
  have z1 := HG.out.op.elem.frozen 1
  have z2 := HG.out.op.elem.frozen 2
  have z3 := HG.out.op.elem.frozen 3
  have z4 := HG.out.op.elem.frozen 4
  have z5 := HG.out.op.elem.frozen 5
  have z6 := HG.out.op.elem.frozen 6
  have HFD : Hid (foldF [] (op0 kd, st) = y0) := by
    show foldF [] (op0 kd, st) = y0
    rw [HY0.out]; rfl
  rw [HFD.out] at HX
  have HRD := Lib.hid HG.out.rd
  have HC := Lib.hid HG.out.cur
  have hl11 := Nat.le_of_lt (Nat.lt_of_le_of_lt HG.out.obl HG.out.op.elem.lt)
  have HSZ := Lib.hid hl11
  clear hl11
  obtain ⟨i0, hi, hz0, hz1, hz2⟩ := info_parts op_info
  go_wp2_with (at_builtin; refine wpList_append_own _ rfl _ _ 41 rfl lim2 44 i0 (.agg #[.int .u8 0, .int .i64 0, .int .i64 0, .int .i64 0, .int .u32 0, .int .u8 0, .string ⟨#[]⟩]) 7 56 Try.underlying41 hi hz0 hz1 hz2 rfl (by decide) _ _ _ rfl (HC.out.alloc _) ⟨ub + 1, 0, none⟩ 1 1 (opCells y0.1) rfl rfl (news_op' _ _ _ _ (by simp [HUB.out])) (one_op _) ?c3 ?c4 ?c5 ?_)
  case c3 => unfold maxLen; omega
  case c4 => omega
  case c5 => exact Nat.le_trans HSZ.out (by simp)
  intro v' w20 hown hgrow _
  have HA := Lib.hid (ops_pushedR (o := y0.1) HRD.out HC.out HSZ.out HL4.out hown hgrow)
  clear hown hgrow HRD HC
  go_wp2_with fail
  exact HX.out v' _ _ _ _ _ _ _ _ _ _ _ _ _ _ _ _ _ _ _ _ _ _ _ _ _ _ _ _ _ _ _ _ _ _ _ _ _ _ _ _ _ _ _ (HA)

set_option maxHeartbeats 4000000 in
set_option maxRecDepth 100000 in
theorem refOp5 (w W : World) (B ob lim2 : Nat) (kd : Int) (st : ByteArray) (cf : CfgV) (v8 v7 : Value) (ps : List (List OpV)) (xs : List OpV)
    (c0 c1 c2 c4 c5 c6 c7 c9 c12 c13 c14 c15 c16 c17 c18 c19 c20 c21 c22 c23 c24 c25 c26 c27 c28 c29 c30 c31 c32 c33 c34 c35 c36 c37 c38 c39 c40 c41 c42 c43 c44 c45 c46 c47 c48 c49 c50 c51 c52 c53 c54 c55 c56 c57 c58 c59 c60 c61 c62 c63 c64 c65 c66 c67 c68 c69 c70 c71 c72 c73 c74 c75 c76 c77 c78 c79 c80 c81 c82 c83 c84 c126 c127 c128 c129 c130 c131 c132 c133 c134 c135 c136 c137 c138 c139 c140 c141 c142 c143 c144 c145 c146 c147 c148 c149 c150 c151 c152 c153 c154 c155 : Value) (u11 u85 u86 u87 u88 u89 u90 u91 u92 u93 u94 u95 u96 u97 u98 u99 u100 u101 u102 u103 u104 u105 u106 u107 u108 u109 u110 u111 u112 u113 u114 u115 u116 u117 u118 u119 u120 u121 u122 u123 u124 u125 : Value) (Q : Exit → Act → World → Prop)
    (hx : ∀ (v' u11 u85 u86 u87 u88 u89 u90 u91 u92 u93 u94 u95 u96 u97 u98 u99 u100 u101 u102 u103 u104 u105 u106 u107 u108 u109 u110 u111 u112 u113 u114 u115 u116 u117 u118 u119 u120 u121 u122 u123 u124 u125 : Value) (W' : World), Hid (RrSt w W' B (foldF [0] (op0 kd, st)).2 lim2 cf v8 (.slice none 0 0) ps [] ∧ CurRow W' lim2 v' (xs ++ [(foldF [0] (op0 kd, st)).1]) ∧ lim2 ≤ W'.heap.size) → Q .normal ⟨List.toArray (c0 :: c1 :: c2 :: (.pointer (some ⟨B + 1, 0, none⟩)) :: c4 :: c5 :: c6 :: c7 :: v' :: c9 :: (.pointer (some ⟨ob, 0, none⟩)) :: u11 :: c12 :: c13 :: c14 :: c15 :: c16 :: c17 :: c18 :: c19 :: c20 :: c21 :: c22 :: c23 :: c24 :: c25 :: c26 :: c27 :: c28 :: c29 :: c30 :: c31 :: c32 :: c33 :: c34 :: c35 :: c36 :: c37 :: c38 :: c39 :: c40 :: c41 :: c42 :: c43 :: c44 :: c45 :: c46 :: c47 :: c48 :: c49 :: c50 :: c51 :: c52 :: c53 :: c54 :: c55 :: c56 :: c57 :: c58 :: c59 :: c60 :: c61 :: c62 :: c63 :: c64 :: c65 :: c66 :: c67 :: c68 :: c69 :: c70 :: c71 :: c72 :: c73 :: c74 :: c75 :: c76 :: c77 :: c78 :: c79 :: c80 :: c81 :: c82 :: c83 :: c84 :: u85 :: u86 :: u87 :: u88 :: u89 :: u90 :: u91 :: u92 :: u93 :: u94 :: u95 :: u96 :: u97 :: u98 :: u99 :: u100 :: u101 :: u102 :: u103 :: u104 :: u105 :: u106 :: u107 :: u108 :: u109 :: u110 :: u111 :: u112 :: u113 :: u114 :: u115 :: u116 :: u117 :: u118 :: u119 :: u120 :: u121 :: u122 :: u123 :: u124 :: u125 :: c126 :: c127 :: c128 :: c129 :: c130 :: c131 :: c132 :: c133 :: c134 :: c135 :: c136 :: c137 :: c138 :: c139 :: c140 :: c141 :: c142 :: c143 :: c144 :: c145 :: c146 :: c147 :: c148 :: c149 :: c150 :: c151 :: c152 :: c153 :: c154 :: c155 :: []), []⟩ W')
    (HQ : Hid (RrSt w W B st lim2 cf v8 (.slice none 0 0) ps [])) (HC : Hid (CurRow W lim2 v7 xs)) (hl : Hid (lim2 ≤ W.heap.size)) (hob : Hid (W.heap.size = ob)) (HL4 : Hid (B + 1 + 1 + 1 ≤ lim2)) (hst : st.size ≤ 3000) (hxl : xs.length < 8)
    (hk1 : 1 ≤ kd) (hk2 : kd ≤ 16) (HU : Hid (usesVal kd = .agg #[.bool true, .bool false, .bool false, .bool false, .bool false, .bool false])) :
    Code.wp Try.prog body13o Q ⟨List.toArray (c0 :: c1 :: c2 :: (.pointer (some ⟨B + 1, 0, none⟩)) :: c4 :: c5 :: c6 :: c7 :: v7 :: c9 :: (.pointer (some ⟨ob, 0, none⟩)) :: u11 :: c12 :: c13 :: c14 :: c15 :: c16 :: c17 :: c18 :: c19 :: c20 :: c21 :: c22 :: c23 :: c24 :: c25 :: c26 :: c27 :: c28 :: c29 :: c30 :: c31 :: c32 :: c33 :: c34 :: c35 :: c36 :: c37 :: c38 :: c39 :: c40 :: c41 :: c42 :: c43 :: c44 :: c45 :: c46 :: c47 :: c48 :: c49 :: c50 :: c51 :: c52 :: c53 :: c54 :: c55 :: c56 :: c57 :: c58 :: c59 :: c60 :: c61 :: c62 :: c63 :: c64 :: c65 :: c66 :: c67 :: c68 :: c69 :: c70 :: c71 :: c72 :: c73 :: c74 :: c75 :: c76 :: c77 :: c78 :: c79 :: c80 :: c81 :: c82 :: c83 :: c84 :: u85 :: u86 :: u87 :: u88 :: u89 :: u90 :: u91 :: u92 :: u93 :: u94 :: u95 :: u96 :: u97 :: u98 :: u99 :: u100 :: u101 :: u102 :: u103 :: u104 :: u105 :: u106 :: u107 :: u108 :: u109 :: u110 :: u111 :: u112 :: u113 :: u114 :: u115 :: u116 :: u117 :: u118 :: u119 :: u120 :: u121 :: u122 :: u123 :: u124 :: u125 :: c126 :: c127 :: c128 :: c129 :: c130 :: c131 :: c132 :: c133 :: c134 :: c135 :: c136 :: c137 :: c138 :: c139 :: c140 :: c141 :: c142 :: c143 :: c144 :: c145 :: c146 :: c147 :: c148 :: c149 :: c150 :: c151 :: c152 :: c153 :: c154 :: c155 :: []), []⟩ (W.alloc (opObj kd)) := by
  have HX := Lib.hid hx
  clear hx
  conv => arg 2; whnf
  have n0 : (W.alloc (opObj kd)).cell? ⟨ob, 0, none⟩ = some (.int .u8 kd) := by rw [World.cell?_alloc_at _ _ _ _ hob.out.symm]; rfl
  go_wp2_with fail
  refine (usesFn kd _ (by omega) (by omega)).mono ?_
  rintro e w1 ⟨rfl, hg⟩
  rw [HU.out]
  obtain ⟨y0, HY0, HG⟩ : ∃ y0 : OpV × ByteArray, Hid (y0 = (op0 kd, st)) ∧ Hid (FrSt w (w1.alloc (.cells #[.bool true, .bool false, .bool false, .bool false, .bool false, .bool false] 57)) B y0.2 lim2 cf v8 (.slice none 0 0) ps [] ob y0.1 v7 xs w1.heap.size #[.bool true, .bool false, .bool false, .bool false, .bool false, .bool false]) := by
    refine ⟨_, rfl, ?_⟩
    have := frst_init (us := #[.bool true, .bool false, .bool false, .bool false, .bool false, .bool false]) HQ.out HC.out hl.out HL4.out hg
    rw [hob.out] at this
    exact this
  clear hg HQ HC n0
  have hub1 : ¬ w1.heap.size = ob := by
    intro e
    have h1 := HG.out.op.elem
    have h2 := HG.out.ut
    rw [e] at h2
    exact h1.ne h2 (by decide) rfl
  have hub2 : ¬ ob = w1.heap.size := fun e => hub1 e.symm
  have hsy0 : y0.2.size ≤ 3000 := by rw [HY0.out]; exact hst
  generalize hub : w1.heap.size = ub at *
  have HUB := Lib.hid hub
  have u0 : (w1.alloc (.cells #[.bool true, .bool false, .bool false, .bool false, .bool false, .bool false] 57)).cell? ⟨ub, 0, none⟩ = some (.bool true) := HG.out.cell 0
  have u1 : (w1.alloc (.cells #[.bool true, .bool false, .bool false, .bool false, .bool false, .bool false] 57)).cell? ⟨ub, 1, none⟩ = some (.bool false) := HG.out.cell 1
  have u2 : (w1.alloc (.cells #[.bool true, .bool false, .bool false, .bool false, .bool false, .bool false] 57)).cell? ⟨ub, 2, none⟩ = some (.bool false) := HG.out.cell 2
  have u3 : (w1.alloc (.cells #[.bool true, .bool false, .bool false, .bool false, .bool false, .bool false] 57)).cell? ⟨ub, 3, none⟩ = some (.bool false) := HG.out.cell 3
  have u4 : (w1.alloc (.cells #[.bool true, .bool false, .bool false, .bool false, .bool false, .bool false] 57)).cell? ⟨ub, 4, none⟩ = some (.bool false) := HG.out.cell 4
  have u5 : (w1.alloc (.cells #[.bool true, .bool false, .bool false, .bool false, .bool false, .bool false] 57)).cell? ⟨ub, 5, none⟩ = some (.bool false) := HG.out.cell 5
  have n0 := HG.out.op.op.c0
  have n1 := HG.out.op.op.c1
  have n2 := HG.out.op.op.c2
  have n3 := HG.out.op.op.c3
  have n4 := HG.out.op.op.c4
  have n5 := HG.out.op.op.c5
  have n6 := HG.out.op.op.c6
  rw [Nat.zero_add] at n1 n2 n3 n4 n5 n6
  have z1 := HG.out.op.elem.frozen 1
  have z2 := HG.out.op.elem.frozen 2
  have z3 := HG.out.op.elem.frozen 3
  have z4 := HG.out.op.elem.frozen 4
  have z5 := HG.out.op.elem.frozen 5
  have z6 := HG.out.op.elem.frozen 6
  go_wp2_with fail
  refine (refNext 4 (B + 1) 56 y0.2 _ HG.out.rd.str hsy0 (by omega) (by omega)).mono ?_
  rintro e w2 ⟨rfl, hb, hg⟩
  have HG1 := Lib.hid (HG.out.next hb hg)
  clear hb hg HG
  clear u0 u1 u2 u3 u4 u5 n0 n1 n2 n3 n4 n5 n6 z1 z2 z3 z4 z5 z6
  have b0 := Int.emod_nonneg (hd y0.2) (show (4 : Int) ≠ 0 by omega)
  have b1 := Int.emod_lt_of_pos (hd y0.2) (show (0 : Int) < 4 by omega)
  have hsz := tl_size y0.2
  obtain ⟨y1, HY1, HG⟩ : ∃ y : OpV × ByteArray, Hid (y = stepF 0 y0) ∧ Hid (FrSt w (w2.setCell ⟨ob, 1, none⟩ (.int .i64 (hd y0.2 % 4))) B y.2 lim2 cf v8 (.slice none 0 0) ps [] ob y.1 v7 xs ub #[.bool true, .bool false, .bool false, .bool false, .bool false, .bool false]) := ⟨_, rfl, HG1.out.set1 (hd y0.2 % 4)⟩
  have hsy1 : y1.2.size ≤ 3000 := by rw [HY1.out]; show (tl y0.2).size ≤ 3000; omega
  have HOP : Hid (y1.1 = { y0.1 with slot := hd y0.2 % 4 }) := by show _ = _; rw [HY1.out]; rfl
  clear hsz
  generalize hd y0.2 % 4 = x0 at *
  have u0 : w2.cell? ⟨ub, 0, none⟩ = some (.bool true) := HG1.out.cell 0
  have u1 : w2.cell? ⟨ub, 1, none⟩ = some (.bool false) := HG1.out.cell 1
  have u2 : w2.cell? ⟨ub, 2, none⟩ = some (.bool false) := HG1.out.cell 2
  have u3 : w2.cell? ⟨ub, 3, none⟩ = some (.bool false) := HG1.out.cell 3
  have u4 : w2.cell? ⟨ub, 4, none⟩ = some (.bool false) := HG1.out.cell 4
  have u5 : w2.cell? ⟨ub, 5, none⟩ = some (.bool false) := HG1.out.cell 5
  have n0 := HG1.out.op.op.c0
  have n1 := HG1.out.op.op.c1
  have n2 := HG1.out.op.op.c2
  have n3 := HG1.out.op.op.c3
  have n4 := HG1.out.op.op.c4
  have n5 := HG1.out.op.op.c5
  have n6 := HG1.out.op.op.c6
  rw [Nat.zero_add] at n1 n2 n3 n4 n5 n6
  have z1 := HG1.out.op.elem.frozen 1
  have z2 := HG1.out.op.elem.frozen 2
  have z3 := HG1.out.op.elem.frozen 3
  have z4 := HG1.out.op.elem.frozen 4
  have z5 := HG1.out.op.elem.frozen 5
  have z6 := HG1.out.op.elem.frozen 6
  clear HG1
  have HFD : Hid (foldF [0] (op0 kd, st) = y1) := by
    show foldF [0] (op0 kd, st) = y1
    rw [HY1.out, HY0.out]; rfl
  rw [HFD.out] at HX
  have HRD := Lib.hid HG.out.rd
  have HC := Lib.hid HG.out.cur
  have hl11 := Nat.le_of_lt (Nat.lt_of_le_of_lt HG.out.obl HG.out.op.elem.lt)
  have HSZ := Lib.hid hl11
  clear hl11
  obtain ⟨i0, hi, hz0, hz1, hz2⟩ := info_parts op_info
  go_wp2_with (at_builtin; refine wpList_append_own _ rfl _ _ 41 rfl lim2 44 i0 (.agg #[.int .u8 0, .int .i64 0, .int .i64 0, .int .i64 0, .int .u32 0, .int .u8 0, .string ⟨#[]⟩]) 7 56 Try.underlying41 hi hz0 hz1 hz2 rfl (by decide) _ _ _ rfl (HC.out.alloc _) ⟨w2.heap.size, 0, none⟩ 1 1 (opCells { y0.1 with slot := x0 }) rfl rfl (news_op' _ _ _ _ (by simp)) (one_op _) ?c3 ?c4 ?c5 ?_)
  case c3 => unfold maxLen; omega
  case c4 => omega
  case c5 => exact Nat.le_trans HSZ.out (by simp)
  intro v' w20 hown hgrow _
  have HA := Lib.hid (ops_pushedR (o := { y0.1 with slot := x0 }) HRD.out HC.out HSZ.out HL4.out hown hgrow)
  clear hown hgrow HRD HC
  go_wp2_with fail
  exact HX.out v' _ _ _ _ _ _ _ _ _ _ _ _ _ _ _ _ _ _ _ _ _ _ _ _ _ _ _ _ _ _ _ _ _ _ _ _ _ _ _ _ _ _ _ (by rw [HOP.out]; exact HA.out)

set_option maxHeartbeats 4000000 in
set_option maxRecDepth 100000 in
theorem refOp6 (w W : World) (B ob lim2 : Nat) (kd : Int) (st : ByteArray) (cf : CfgV) (v8 v7 : Value) (ps : List (List OpV)) (xs : List OpV)
    (c0 c1 c2 c4 c5 c6 c7 c9 c12 c13 c14 c15 c16 c17 c18 c19 c20 c21 c22 c23 c24 c25 c26 c27 c28 c29 c30 c31 c32 c33 c34 c35 c36 c37 c38 c39 c40 c41 c42 c43 c44 c45 c46 c47 c48 c49 c50 c51 c52 c53 c54 c55 c56 c57 c58 c59 c60 c61 c62 c63 c64 c65 c66 c67 c68 c69 c70 c71 c72 c73 c74 c75 c76 c77 c78 c79 c80 c81 c82 c83 c84 c126 c127 c128 c129 c130 c131 c132 c133 c134 c135 c136 c137 c138 c139 c140 c141 c142 c143 c144 c145 c146 c147 c148 c149 c150 c151 c152 c153 c154 c155 : Value) (u11 u85 u86 u87 u88 u89 u90 u91 u92 u93 u94 u95 u96 u97 u98 u99 u100 u101 u102 u103 u104 u105 u106 u107 u108 u109 u110 u111 u112 u113 u114 u115 u116 u117 u118 u119 u120 u121 u122 u123 u124 u125 : Value) (Q : Exit → Act → World → Prop)
    (hx : ∀ (v' u11 u85 u86 u87 u88 u89 u90 u91 u92 u93 u94 u95 u96 u97 u98 u99 u100 u101 u102 u103 u104 u105 u106 u107 u108 u109 u110 u111 u112 u113 u114 u115 u116 u117 u118 u119 u120 u121 u122 u123 u124 u125 : Value) (W' : World), Hid (RrSt w W' B (foldF [0, 1, 2] (op0 kd, st)).2 lim2 cf v8 (.slice none 0 0) ps [] ∧ CurRow W' lim2 v' (xs ++ [(foldF [0, 1, 2] (op0 kd, st)).1]) ∧ lim2 ≤ W'.heap.size) → Q .normal ⟨List.toArray (c0 :: c1 :: c2 :: (.pointer (some ⟨B + 1, 0, none⟩)) :: c4 :: c5 :: c6 :: c7 :: v' :: c9 :: (.pointer (some ⟨ob, 0, none⟩)) :: u11 :: c12 :: c13 :: c14 :: c15 :: c16 :: c17 :: c18 :: c19 :: c20 :: c21 :: c22 :: c23 :: c24 :: c25 :: c26 :: c27 :: c28 :: c29 :: c30 :: c31 :: c32 :: c33 :: c34 :: c35 :: c36 :: c37 :: c38 :: c39 :: c40 :: c41 :: c42 :: c43 :: c44 :: c45 :: c46 :: c47 :: c48 :: c49 :: c50 :: c51 :: c52 :: c53 :: c54 :: c55 :: c56 :: c57 :: c58 :: c59 :: c60 :: c61 :: c62 :: c63 :: c64 :: c65 :: c66 :: c67 :: c68 :: c69 :: c70 :: c71 :: c72 :: c73 :: c74 :: c75 :: c76 :: c77 :: c78 :: c79 :: c80 :: c81 :: c82 :: c83 :: c84 :: u85 :: u86 :: u87 :: u88 :: u89 :: u90 :: u91 :: u92 :: u93 :: u94 :: u95 :: u96 :: u97 :: u98 :: u99 :: u100 :: u101 :: u102 :: u103 :: u104 :: u105 :: u106 :: u107 :: u108 :: u109 :: u110 :: u111 :: u112 :: u113 :: u114 :: u115 :: u116 :: u117 :: u118 :: u119 :: u120 :: u121 :: u122 :: u123 :: u124 :: u125 :: c126 :: c127 :: c128 :: c129 :: c130 :: c131 :: c132 :: c133 :: c134 :: c135 :: c136 :: c137 :: c138 :: c139 :: c140 :: c141 :: c142 :: c143 :: c144 :: c145 :: c146 :: c147 :: c148 :: c149 :: c150 :: c151 :: c152 :: c153 :: c154 :: c155 :: []), []⟩ W')
    (HQ : Hid (RrSt w W B st lim2 cf v8 (.slice none 0 0) ps [])) (HC : Hid (CurRow W lim2 v7 xs)) (hl : Hid (lim2 ≤ W.heap.size)) (hob : Hid (W.heap.size = ob)) (HL4 : Hid (B + 1 + 1 + 1 ≤ lim2)) (hst : st.size ≤ 3000) (hxl : xs.length < 8)
    (hk1 : 1 ≤ kd) (hk2 : kd ≤ 16) (HU : Hid (usesVal kd = .agg #[.bool true, .bool true, .bool true, .bool false, .bool false, .bool false])) :
    Code.wp Try.prog body13o Q ⟨List.toArray (c0 :: c1 :: c2 :: (.pointer (some ⟨B + 1, 0, none⟩)) :: c4 :: c5 :: c6 :: c7 :: v7 :: c9 :: (.pointer (some ⟨ob, 0, none⟩)) :: u11 :: c12 :: c13 :: c14 :: c15 :: c16 :: c17 :: c18 :: c19 :: c20 :: c21 :: c22 :: c23 :: c24 :: c25 :: c26 :: c27 :: c28 :: c29 :: c30 :: c31 :: c32 :: c33 :: c34 :: c35 :: c36 :: c37 :: c38 :: c39 :: c40 :: c41 :: c42 :: c43 :: c44 :: c45 :: c46 :: c47 :: c48 :: c49 :: c50 :: c51 :: c52 :: c53 :: c54 :: c55 :: c56 :: c57 :: c58 :: c59 :: c60 :: c61 :: c62 :: c63 :: c64 :: c65 :: c66 :: c67 :: c68 :: c69 :: c70 :: c71 :: c72 :: c73 :: c74 :: c75 :: c76 :: c77 :: c78 :: c79 :: c80 :: c81 :: c82 :: c83 :: c84 :: u85 :: u86 :: u87 :: u88 :: u89 :: u90 :: u91 :: u92 :: u93 :: u94 :: u95 :: u96 :: u97 :: u98 :: u99 :: u100 :: u101 :: u102 :: u103 :: u104 :: u105 :: u106 :: u107 :: u108 :: u109 :: u110 :: u111 :: u112 :: u113 :: u114 :: u115 :: u116 :: u117 :: u118 :: u119 :: u120 :: u121 :: u122 :: u123 :: u124 :: u125 :: c126 :: c127 :: c128 :: c129 :: c130 :: c131 :: c132 :: c133 :: c134 :: c135 :: c136 :: c137 :: c138 :: c139 :: c140 :: c141 :: c142 :: c143 :: c144 :: c145 :: c146 :: c147 :: c148 :: c149 :: c150 :: c151 :: c152 :: c153 :: c154 :: c155 :: []), []⟩ (W.alloc (opObj kd)) := by
  have HX := Lib.hid hx
  clear hx
  conv => arg 2; whnf
  have n0 : (W.alloc (opObj kd)).cell? ⟨ob, 0, none⟩ = some (.int .u8 kd) := by rw [World.cell?_alloc_at _ _ _ _ hob.out.symm]; rfl
  go_wp2_with fail
  refine (usesFn kd _ (by omega) (by omega)).mono ?_
  rintro e w1 ⟨rfl, hg⟩
  rw [HU.out]
  obtain ⟨y0, HY0, HG⟩ : ∃ y0 : OpV × ByteArray, Hid (y0 = (op0 kd, st)) ∧ Hid (FrSt w (w1.alloc (.cells #[.bool true, .bool true, .bool true, .bool false, .bool false, .bool false] 57)) B y0.2 lim2 cf v8 (.slice none 0 0) ps [] ob y0.1 v7 xs w1.heap.size #[.bool true, .bool true, .bool true, .bool false, .bool false, .bool false]) := by
    refine ⟨_, rfl, ?_⟩
    have := frst_init (us := #[.bool true, .bool true, .bool true, .bool false, .bool false, .bool false]) HQ.out HC.out hl.out HL4.out hg
    rw [hob.out] at this
    exact this
  clear hg HQ HC n0
  have hub1 : ¬ w1.heap.size = ob := by
    intro e
    have h1 := HG.out.op.elem
    have h2 := HG.out.ut
    rw [e] at h2
    exact h1.ne h2 (by decide) rfl
  have hub2 : ¬ ob = w1.heap.size := fun e => hub1 e.symm
  have hsy0 : y0.2.size ≤ 3000 := by rw [HY0.out]; exact hst
  generalize hub : w1.heap.size = ub at *
  have HUB := Lib.hid hub
  have u0 : (w1.alloc (.cells #[.bool true, .bool true, .bool true, .bool false, .bool false, .bool false] 57)).cell? ⟨ub, 0, none⟩ = some (.bool true) := HG.out.cell 0
  have u1 : (w1.alloc (.cells #[.bool true, .bool true, .bool true, .bool false, .bool false, .bool false] 57)).cell? ⟨ub, 1, none⟩ = some (.bool true) := HG.out.cell 1
  have u2 : (w1.alloc (.cells #[.bool true, .bool true, .bool true, .bool false, .bool false, .bool false] 57)).cell? ⟨ub, 2, none⟩ = some (.bool true) := HG.out.cell 2
  have u3 : (w1.alloc (.cells #[.bool true, .bool true, .bool true, .bool false, .bool false, .bool false] 57)).cell? ⟨ub, 3, none⟩ = some (.bool false) := HG.out.cell 3
  have u4 : (w1.alloc (.cells #[.bool true, .bool true, .bool true, .bool false, .bool false, .bool false] 57)).cell? ⟨ub, 4, none⟩ = some (.bool false) := HG.out.cell 4
  have u5 : (w1.alloc (.cells #[.bool true, .bool true, .bool true, .bool false, .bool false, .bool false] 57)).cell? ⟨ub, 5, none⟩ = some (.bool false) := HG.out.cell 5
  have n0 := HG.out.op.op.c0
  have n1 := HG.out.op.op.c1
  have n2 := HG.out.op.op.c2
  have n3 := HG.out.op.op.c3
  have n4 := HG.out.op.op.c4
  have n5 := HG.out.op.op.c5
  have n6 := HG.out.op.op.c6
  rw [Nat.zero_add] at n1 n2 n3 n4 n5 n6
  have z1 := HG.out.op.elem.frozen 1
  have z2 := HG.out.op.elem.frozen 2
  have z3 := HG.out.op.elem.frozen 3
  have z4 := HG.out.op.elem.frozen 4
  have z5 := HG.out.op.elem.frozen 5
  have z6 := HG.out.op.elem.frozen 6
  go_wp2_with fail
  refine (refNext 4 (B + 1) 56 y0.2 _ HG.out.rd.str hsy0 (by omega) (by omega)).mono ?_
  rintro e w2 ⟨rfl, hb, hg⟩
  have HG1 := Lib.hid (HG.out.next hb hg)
  clear hb hg HG
  clear u0 u1 u2 u3 u4 u5 n0 n1 n2 n3 n4 n5 n6 z1 z2 z3 z4 z5 z6
  have b0 := Int.emod_nonneg (hd y0.2) (show (4 : Int) ≠ 0 by omega)
  have b1 := Int.emod_lt_of_pos (hd y0.2) (show (0 : Int) < 4 by omega)
  have hsz := tl_size y0.2
  obtain ⟨y1, HY1, HG⟩ : ∃ y : OpV × ByteArray, Hid (y = stepF 0 y0) ∧ Hid (FrSt w (w2.setCell ⟨ob, 1, none⟩ (.int .i64 (hd y0.2 % 4))) B y.2 lim2 cf v8 (.slice none 0 0) ps [] ob y.1 v7 xs ub #[.bool true, .bool true, .bool true, .bool false, .bool false, .bool false]) := ⟨_, rfl, HG1.out.set1 (hd y0.2 % 4)⟩
  have hsy1 : y1.2.size ≤ 3000 := by rw [HY1.out]; show (tl y0.2).size ≤ 3000; omega
  have HOP : Hid (y1.1 = { y0.1 with slot := hd y0.2 % 4 }) := by show _ = _; rw [HY1.out]; rfl
  clear hsz
  generalize hd y0.2 % 4 = x0 at *
  have u0 : w2.cell? ⟨ub, 0, none⟩ = some (.bool true) := HG1.out.cell 0
  have u1 : w2.cell? ⟨ub, 1, none⟩ = some (.bool true) := HG1.out.cell 1
  have u2 : w2.cell? ⟨ub, 2, none⟩ = some (.bool true) := HG1.out.cell 2
  have u3 : w2.cell? ⟨ub, 3, none⟩ = some (.bool false) := HG1.out.cell 3
  have u4 : w2.cell? ⟨ub, 4, none⟩ = some (.bool false) := HG1.out.cell 4
  have u5 : w2.cell? ⟨ub, 5, none⟩ = some (.bool false) := HG1.out.cell 5
  have n0 := HG1.out.op.op.c0
  have n1 := HG1.out.op.op.c1
  have n2 := HG1.out.op.op.c2
  have n3 := HG1.out.op.op.c3
  have n4 := HG1.out.op.op.c4
  have n5 := HG1.out.op.op.c5
  have n6 := HG1.out.op.op.c6
  rw [Nat.zero_add] at n1 n2 n3 n4 n5 n6
  have z1 := HG1.out.op.elem.frozen 1
  have z2 := HG1.out.op.elem.frozen 2
  have z3 := HG1.out.op.elem.frozen 3
  have z4 := HG1.out.op.elem.frozen 4
  have z5 := HG1.out.op.elem.frozen 5
  have z6 := HG1.out.op.elem.frozen 6
  clear HG1
  go_wp2_with fail
  refine (refNext 64 (B + 1) 56 y1.2 _ HG.out.rd.str hsy1 (by omega) (by omega)).mono ?_
  rintro e w3 ⟨rfl, hb, hg⟩
  have HG1 := Lib.hid (HG.out.next hb hg)
  clear hb hg HG
  clear u0 u1 u2 u3 u4 u5 n0 n1 n2 n3 n4 n5 n6 z1 z2 z3 z4 z5 z6
  have b0 := Int.emod_nonneg (hd y1.2) (show (64 : Int) ≠ 0 by omega)
  have b1 := Int.emod_lt_of_pos (hd y1.2) (show (0 : Int) < 64 by omega)
  have hsz := tl_size y1.2
  obtain ⟨y2, HY2, HG⟩ : ∃ y : OpV × ByteArray, Hid (y = stepF 1 y1) ∧ Hid (FrSt w (w3.setCell ⟨ob, 2, none⟩ (.int .i64 (hd y1.2 % 64))) B y.2 lim2 cf v8 (.slice none 0 0) ps [] ob y.1 v7 xs ub #[.bool true, .bool true, .bool true, .bool false, .bool false, .bool false]) := ⟨_, rfl, HG1.out.set2 (hd y1.2 % 64)⟩
  have hsy2 : y2.2.size ≤ 3000 := by rw [HY2.out]; show (tl y1.2).size ≤ 3000; omega
  have HOP : Hid (y2.1 = { y1.1 with pos := hd y1.2 % 64 }) := by show _ = _; rw [HY2.out]; rfl
  clear hsz
  generalize hd y1.2 % 64 = x1 at *
  have u0 : w3.cell? ⟨ub, 0, none⟩ = some (.bool true) := HG1.out.cell 0
  have u1 : w3.cell? ⟨ub, 1, none⟩ = some (.bool true) := HG1.out.cell 1
  have u2 : w3.cell? ⟨ub, 2, none⟩ = some (.bool true) := HG1.out.cell 2
  have u3 : w3.cell? ⟨ub, 3, none⟩ = some (.bool false) := HG1.out.cell 3
  have u4 : w3.cell? ⟨ub, 4, none⟩ = some (.bool false) := HG1.out.cell 4
  have u5 : w3.cell? ⟨ub, 5, none⟩ = some (.bool false) := HG1.out.cell 5
  have n0 := HG1.out.op.op.c0
  have n1 := HG1.out.op.op.c1
  have n2 := HG1.out.op.op.c2
  have n3 := HG1.out.op.op.c3
  have n4 := HG1.out.op.op.c4
  have n5 := HG1.out.op.op.c5
  have n6 := HG1.out.op.op.c6
  rw [Nat.zero_add] at n1 n2 n3 n4 n5 n6
  have z1 := HG1.out.op.elem.frozen 1
  have z2 := HG1.out.op.elem.frozen 2
  have z3 := HG1.out.op.elem.frozen 3
  have z4 := HG1.out.op.elem.frozen 4
  have z5 := HG1.out.op.elem.frozen 5
  have z6 := HG1.out.op.elem.frozen 6
  clear HG1
  go_wp2_with fail
  refine (refNext 32 (B + 1) 56 y2.2 _ HG.out.rd.str hsy2 (by omega) (by omega)).mono ?_
  rintro e w4 ⟨rfl, hb, hg⟩
  have HG1 := Lib.hid (HG.out.next hb hg)
  clear hb hg HG
  clear u0 u1 u2 u3 u4 u5 n0 n1 n2 n3 n4 n5 n6 z1 z2 z3 z4 z5 z6
  have b0 := Int.emod_nonneg (hd y2.2) (show (32 : Int) ≠ 0 by omega)
  have b1 := Int.emod_lt_of_pos (hd y2.2) (show (0 : Int) < 32 by omega)
  have hsz := tl_size y2.2
  obtain ⟨y3, HY3, HG⟩ : ∃ y : OpV × ByteArray, Hid (y = stepF 2 y2) ∧ Hid (FrSt w (w4.setCell ⟨ob, 3, none⟩ (.int .i64 (hd y2.2 % 32))) B y.2 lim2 cf v8 (.slice none 0 0) ps [] ob y.1 v7 xs ub #[.bool true, .bool true, .bool true, .bool false, .bool false, .bool false]) := ⟨_, rfl, HG1.out.set3 (hd y2.2 % 32)⟩
  have hsy3 : y3.2.size ≤ 3000 := by rw [HY3.out]; show (tl y2.2).size ≤ 3000; omega
  have HOP : Hid (y3.1 = { y2.1 with num := hd y2.2 % 32 }) := by show _ = _; rw [HY3.out]; rfl
  clear hsz
  generalize hd y2.2 % 32 = x2 at *
  have u0 : w4.cell? ⟨ub, 0, none⟩ = some (.bool true) := HG1.out.cell 0
  have u1 : w4.cell? ⟨ub, 1, none⟩ = some (.bool true) := HG1.out.cell 1
  have u2 : w4.cell? ⟨ub, 2, none⟩ = some (.bool true) := HG1.out.cell 2
  have u3 : w4.cell? ⟨ub, 3, none⟩ = some (.bool false) := HG1.out.cell 3
  have u4 : w4.cell? ⟨ub, 4, none⟩ = some (.bool false) := HG1.out.cell 4
  have u5 : w4.cell? ⟨ub, 5, none⟩ = some (.bool false) := HG1.out.cell 5
  have n0 := HG1.out.op.op.c0
  have n1 := HG1.out.op.op.c1
  have n2 := HG1.out.op.op.c2
  have n3 := HG1.out.op.op.c3
  have n4 := HG1.out.op.op.c4
  have n5 := HG1.out.op.op.c5
  have n6 := HG1.out.op.op.c6
  rw [Nat.zero_add] at n1 n2 n3 n4 n5 n6
  have z1 := HG1.out.op.elem.frozen 1
  have z2 := HG1.out.op.elem.frozen 2
  have z3 := HG1.out.op.elem.frozen 3
  have z4 := HG1.out.op.elem.frozen 4
  have z5 := HG1.out.op.elem.frozen 5
  have z6 := HG1.out.op.elem.frozen 6
  clear HG1
  have HFD : Hid (foldF [0, 1, 2] (op0 kd, st) = y3) := by
    show foldF [0, 1, 2] (op0 kd, st) = y3
    rw [HY3.out, HY2.out, HY1.out, HY0.out]; rfl
  rw [HFD.out] at HX
  have HRD := Lib.hid HG.out.rd
  have HC := Lib.hid HG.out.cur
  have hl11 := Nat.le_of_lt (Nat.lt_of_le_of_lt HG.out.obl HG.out.op.elem.lt)
  have HSZ := Lib.hid hl11
  clear hl11
  obtain ⟨i0, hi, hz0, hz1, hz2⟩ := info_parts op_info
  go_wp2_with (at_builtin; refine wpList_append_own _ rfl _ _ 41 rfl lim2 44 i0 (.agg #[.int .u8 0, .int .i64 0, .int .i64 0, .int .i64 0, .int .u32 0, .int .u8 0, .string ⟨#[]⟩]) 7 56 Try.underlying41 hi hz0 hz1 hz2 rfl (by decide) _ _ _ rfl (HC.out.alloc _) ⟨w4.heap.size, 0, none⟩ 1 1 (opCells { y2.1 with num := x2 }) rfl rfl (news_op' _ _ _ _ (by simp)) (one_op _) ?c3 ?c4 ?c5 ?_)
  case c3 => unfold maxLen; omega
  case c4 => omega
  case c5 => exact Nat.le_trans HSZ.out (by simp)
  intro v' w20 hown hgrow _
  have HA := Lib.hid (ops_pushedR (o := { y2.1 with num := x2 }) HRD.out HC.out HSZ.out HL4.out hown hgrow)
  clear hown hgrow HRD HC
  go_wp2_with fail
  exact HX.out v' _ _ _ _ _ _ _ _ _ _ _ _ _ _ _ _ _ _ _ _ _ _ _ _ _ _ _ _ _ _ _ _ _ _ _ _ _ _ _ _ _ _ _ (by rw [HOP.out]; exact HA.out)

set_option maxHeartbeats 4000000 in
set_option maxRecDepth 100000 in
theorem refOp7 (w W : World) (B ob lim2 : Nat) (kd : Int) (st : ByteArray) (cf : CfgV) (v8 v7 : Value) (ps : List (List OpV)) (xs : List OpV)
    (c0 c1 c2 c4 c5 c6 c7 c9 c12 c13 c14 c15 c16 c17 c18 c19 c20 c21 c22 c23 c24 c25 c26 c27 c28 c29 c30 c31 c32 c33 c34 c35 c36 c37 c38 c39 c40 c41 c42 c43 c44 c45 c46 c47 c48 c49 c50 c51 c52 c53 c54 c55 c56 c57 c58 c59 c60 c61 c62 c63 c64 c65 c66 c67 c68 c69 c70 c71 c72 c73 c74 c75 c76 c77 c78 c79 c80 c81 c82 c83 c84 c126 c127 c128 c129 c130 c131 c132 c133 c134 c135 c136 c137 c138 c139 c140 c141 c142 c143 c144 c145 c146 c147 c148 c149 c150 c151 c152 c153 c154 c155 : Value) (u11 u85 u86 u87 u88 u89 u90 u91 u92 u93 u94 u95 u96 u97 u98 u99 u100 u101 u102 u103 u104 u105 u106 u107 u108 u109 u110 u111 u112 u113 u114 u115 u116 u117 u118 u119 u120 u121 u122 u123 u124 u125 : Value) (Q : Exit → Act → World → Prop)
    (hx : ∀ (v' u11 u85 u86 u87 u88 u89 u90 u91 u92 u93 u94 u95 u96 u97 u98 u99 u100 u101 u102 u103 u104 u105 u106 u107 u108 u109 u110 u111 u112 u113 u114 u115 u116 u117 u118 u119 u120 u121 u122 u123 u124 u125 : Value) (W' : World), Hid (RrSt w W' B (foldF [0, 2] (op0 kd, st)).2 lim2 cf v8 (.slice none 0 0) ps [] ∧ CurRow W' lim2 v' (xs ++ [(foldF [0, 2] (op0 kd, st)).1]) ∧ lim2 ≤ W'.heap.size) → Q .normal ⟨List.toArray (c0 :: c1 :: c2 :: (.pointer (some ⟨B + 1, 0, none⟩)) :: c4 :: c5 :: c6 :: c7 :: v' :: c9 :: (.pointer (some ⟨ob, 0, none⟩)) :: u11 :: c12 :: c13 :: c14 :: c15 :: c16 :: c17 :: c18 :: c19 :: c20 :: c21 :: c22 :: c23 :: c24 :: c25 :: c26 :: c27 :: c28 :: c29 :: c30 :: c31 :: c32 :: c33 :: c34 :: c35 :: c36 :: c37 :: c38 :: c39 :: c40 :: c41 :: c42 :: c43 :: c44 :: c45 :: c46 :: c47 :: c48 :: c49 :: c50 :: c51 :: c52 :: c53 :: c54 :: c55 :: c56 :: c57 :: c58 :: c59 :: c60 :: c61 :: c62 :: c63 :: c64 :: c65 :: c66 :: c67 :: c68 :: c69 :: c70 :: c71 :: c72 :: c73 :: c74 :: c75 :: c76 :: c77 :: c78 :: c79 :: c80 :: c81 :: c82 :: c83 :: c84 :: u85 :: u86 :: u87 :: u88 :: u89 :: u90 :: u91 :: u92 :: u93 :: u94 :: u95 :: u96 :: u97 :: u98 :: u99 :: u100 :: u101 :: u102 :: u103 :: u104 :: u105 :: u106 :: u107 :: u108 :: u109 :: u110 :: u111 :: u112 :: u113 :: u114 :: u115 :: u116 :: u117 :: u118 :: u119 :: u120 :: u121 :: u122 :: u123 :: u124 :: u125 :: c126 :: c127 :: c128 :: c129 :: c130 :: c131 :: c132 :: c133 :: c134 :: c135 :: c136 :: c137 :: c138 :: c139 :: c140 :: c141 :: c142 :: c143 :: c144 :: c145 :: c146 :: c147 :: c148 :: c149 :: c150 :: c151 :: c152 :: c153 :: c154 :: c155 :: []), []⟩ W')
    (HQ : Hid (RrSt w W B st lim2 cf v8 (.slice none 0 0) ps [])) (HC : Hid (CurRow W lim2 v7 xs)) (hl : Hid (lim2 ≤ W.heap.size)) (hob : Hid (W.heap.size = ob)) (HL4 : Hid (B + 1 + 1 + 1 ≤ lim2)) (hst : st.size ≤ 3000) (hxl : xs.length < 8)
    (hk1 : 1 ≤ kd) (hk2 : kd ≤ 16) (HU : Hid (usesVal kd = .agg #[.bool true, .bool false, .bool true, .bool false, .bool false, .bool false])) :
    Code.wp Try.prog body13o Q ⟨List.toArray (c0 :: c1 :: c2 :: (.pointer (some ⟨B + 1, 0, none⟩)) :: c4 :: c5 :: c6 :: c7 :: v7 :: c9 :: (.pointer (some ⟨ob, 0, none⟩)) :: u11 :: c12 :: c13 :: c14 :: c15 :: c16 :: c17 :: c18 :: c19 :: c20 :: c21 :: c22 :: c23 :: c24 :: c25 :: c26 :: c27 :: c28 :: c29 :: c30 :: c31 :: c32 :: c33 :: c34 :: c35 :: c36 :: c37 :: c38 :: c39 :: c40 :: c41 :: c42 :: c43 :: c44 :: c45 :: c46 :: c47 :: c48 :: c49 :: c50 :: c51 :: c52 :: c53 :: c54 :: c55 :: c56 :: c57 :: c58 :: c59 :: c60 :: c61 :: c62 :: c63 :: c64 :: c65 :: c66 :: c67 :: c68 :: c69 :: c70 :: c71 :: c72 :: c73 :: c74 :: c75 :: c76 :: c77 :: c78 :: c79 :: c80 :: c81 :: c82 :: c83 :: c84 :: u85 :: u86 :: u87 :: u88 :: u89 :: u90 :: u91 :: u92 :: u93 :: u94 :: u95 :: u96 :: u97 :: u98 :: u99 :: u100 :: u101 :: u102 :: u103 :: u104 :: u105 :: u106 :: u107 :: u108 :: u109 :: u110 :: u111 :: u112 :: u113 :: u114 :: u115 :: u116 :: u117 :: u118 :: u119 :: u120 :: u121 :: u122 :: u123 :: u124 :: u125 :: c126 :: c127 :: c128 :: c129 :: c130 :: c131 :: c132 :: c133 :: c134 :: c135 :: c136 :: c137 :: c138 :: c139 :: c140 :: c141 :: c142 :: c143 :: c144 :: c145 :: c146 :: c147 :: c148 :: c149 :: c150 :: c151 :: c152 :: c153 :: c154 :: c155 :: []), []⟩ (W.alloc (opObj kd)) := by
  have HX := Lib.hid hx
  clear hx
  conv => arg 2; whnf
  have n0 : (W.alloc (opObj kd)).cell? ⟨ob, 0, none⟩ = some (.int .u8 kd) := by rw [World.cell?_alloc_at _ _ _ _ hob.out.symm]; rfl
  go_wp2_with fail
  refine (usesFn kd _ (by omega) (by omega)).mono ?_
  rintro e w1 ⟨rfl, hg⟩
  rw [HU.out]
  obtain ⟨y0, HY0, HG⟩ : ∃ y0 : OpV × ByteArray, Hid (y0 = (op0 kd, st)) ∧ Hid (FrSt w (w1.alloc (.cells #[.bool true, .bool false, .bool true, .bool false, .bool false, .bool false] 57)) B y0.2 lim2 cf v8 (.slice none 0 0) ps [] ob y0.1 v7 xs w1.heap.size #[.bool true, .bool false, .bool true, .bool false, .bool false, .bool false]) := by
    refine ⟨_, rfl, ?_⟩
    have := frst_init (us := #[.bool true, .bool false, .bool true, .bool false, .bool false, .bool false]) HQ.out HC.out hl.out HL4.out hg
    rw [hob.out] at this
    exact this
  clear hg HQ HC n0
  have hub1 : ¬ w1.heap.size = ob := by
    intro e
    have h1 := HG.out.op.elem
    have h2 := HG.out.ut
    rw [e] at h2
    exact h1.ne h2 (by decide) rfl
  have hub2 : ¬ ob = w1.heap.size := fun e => hub1 e.symm
  have hsy0 : y0.2.size ≤ 3000 := by rw [HY0.out]; exact hst
  generalize hub : w1.heap.size = ub at *
  have HUB := Lib.hid hub
  have u0 : (w1.alloc (.cells #[.bool true, .bool false, .bool true, .bool false, .bool false, .bool false] 57)).cell? ⟨ub, 0, none⟩ = some (.bool true) := HG.out.cell 0
  have u1 : (w1.alloc (.cells #[.bool true, .bool false, .bool true, .bool false, .bool false, .bool false] 57)).cell? ⟨ub, 1, none⟩ = some (.bool false) := HG.out.cell 1
  have u2 : (w1.alloc (.cells #[.bool true, .bool false, .bool true, .bool false, .bool false, .bool false] 57)).cell? ⟨ub, 2, none⟩ = some (.bool true) := HG.out.cell 2
  have u3 : (w1.alloc (.cells #[.bool true, .bool false, .bool true, .bool false, .bool false, .bool false] 57)).cell? ⟨ub, 3, none⟩ = some (.bool false) := HG.out.cell 3
  have u4 : (w1.alloc (.cells #[.bool true, .bool false, .bool true, .bool false, .bool false, .bool false] 57)).cell? ⟨ub, 4, none⟩ = some (.bool false) := HG.out.cell 4
  have u5 : (w1.alloc (.cells #[.bool true, .bool false, .bool true, .bool false, .bool false, .bool false] 57)).cell? ⟨ub, 5, none⟩ = some (.bool false) := HG.out.cell 5
  have n0 := HG.out.op.op.c0
  have n1 := HG.out.op.op.c1
  have n2 := HG.out.op.op.c2
  have n3 := HG.out.op.op.c3
  have n4 := HG.out.op.op.c4
  have n5 := HG.out.op.op.c5
  have n6 := HG.out.op.op.c6
  rw [Nat.zero_add] at n1 n2 n3 n4 n5 n6
  have z1 := HG.out.op.elem.frozen 1
  have z2 := HG.out.op.elem.frozen 2
  have z3 := HG.out.op.elem.frozen 3
  have z4 := HG.out.op.elem.frozen 4
  have z5 := HG.out.op.elem.frozen 5
  have z6 := HG.out.op.elem.frozen 6
  go_wp2_with fail
  refine (refNext 4 (B + 1) 56 y0.2 _ HG.out.rd.str hsy0 (by omega) (by omega)).mono ?_
  rintro e w2 ⟨rfl, hb, hg⟩
  have HG1 := Lib.hid (HG.out.next hb hg)
  clear hb hg HG
  clear u0 u1 u2 u3 u4 u5 n0 n1 n2 n3 n4 n5 n6 z1 z2 z3 z4 z5 z6
  have b0 := Int.emod_nonneg (hd y0.2) (show (4 : Int) ≠ 0 by omega)
  have b1 := Int.emod_lt_of_pos (hd y0.2) (show (0 : Int) < 4 by omega)
  have hsz := tl_size y0.2
  obtain ⟨y1, HY1, HG⟩ : ∃ y : OpV × ByteArray, Hid (y = stepF 0 y0) ∧ Hid (FrSt w (w2.setCell ⟨ob, 1, none⟩ (.int .i64 (hd y0.2 % 4))) B y.2 lim2 cf v8 (.slice none 0 0) ps [] ob y.1 v7 xs ub #[.bool true, .bool false, .bool true, .bool false, .bool false, .bool false]) := ⟨_, rfl, HG1.out.set1 (hd y0.2 % 4)⟩
  have hsy1 : y1.2.size ≤ 3000 := by rw [HY1.out]; show (tl y0.2).size ≤ 3000; omega
  have HOP : Hid (y1.1 = { y0.1 with slot := hd y0.2 % 4 }) := by show _ = _; rw [HY1.out]; rfl
  clear hsz
  generalize hd y0.2 % 4 = x0 at *
  have u0 : w2.cell? ⟨ub, 0, none⟩ = some (.bool true) := HG1.out.cell 0
  have u1 : w2.cell? ⟨ub, 1, none⟩ = some (.bool false) := HG1.out.cell 1
  have u2 : w2.cell? ⟨ub, 2, none⟩ = some (.bool true) := HG1.out.cell 2
  have u3 : w2.cell? ⟨ub, 3, none⟩ = some (.bool false) := HG1.out.cell 3
  have u4 : w2.cell? ⟨ub, 4, none⟩ = some (.bool false) := HG1.out.cell 4
  have u5 : w2.cell? ⟨ub, 5, none⟩ = some (.bool false) := HG1.out.cell 5
  have n0 := HG1.out.op.op.c0
  have n1 := HG1.out.op.op.c1
  have n2 := HG1.out.op.op.c2
  have n3 := HG1.out.op.op.c3
  have n4 := HG1.out.op.op.c4
  have n5 := HG1.out.op.op.c5
  have n6 := HG1.out.op.op.c6
  rw [Nat.zero_add] at n1 n2 n3 n4 n5 n6
  have z1 := HG1.out.op.elem.frozen 1
  have z2 := HG1.out.op.elem.frozen 2
  have z3 := HG1.out.op.elem.frozen 3
  have z4 := HG1.out.op.elem.frozen 4
  have z5 := HG1.out.op.elem.frozen 5
  have z6 := HG1.out.op.elem.frozen 6
  clear HG1
  go_wp2_with fail
  refine (refNext 32 (B + 1) 56 y1.2 _ HG.out.rd.str hsy1 (by omega) (by omega)).mono ?_
  rintro e w3 ⟨rfl, hb, hg⟩
  have HG1 := Lib.hid (HG.out.next hb hg)
  clear hb hg HG
  clear u0 u1 u2 u3 u4 u5 n0 n1 n2 n3 n4 n5 n6 z1 z2 z3 z4 z5 z6
  have b0 := Int.emod_nonneg (hd y1.2) (show (32 : Int) ≠ 0 by omega)
  have b1 := Int.emod_lt_of_pos (hd y1.2) (show (0 : Int) < 32 by omega)
  have hsz := tl_size y1.2
  obtain ⟨y2, HY2, HG⟩ : ∃ y : OpV × ByteArray, Hid (y = stepF 2 y1) ∧ Hid (FrSt w (w3.setCell ⟨ob, 3, none⟩ (.int .i64 (hd y1.2 % 32))) B y.2 lim2 cf v8 (.slice none 0 0) ps [] ob y.1 v7 xs ub #[.bool true, .bool false, .bool true, .bool false, .bool false, .bool false]) := ⟨_, rfl, HG1.out.set3 (hd y1.2 % 32)⟩
  have hsy2 : y2.2.size ≤ 3000 := by rw [HY2.out]; show (tl y1.2).size ≤ 3000; omega
  have HOP : Hid (y2.1 = { y1.1 with num := hd y1.2 % 32 }) := by show _ = _; rw [HY2.out]; rfl
  clear hsz
  generalize hd y1.2 % 32 = x1 at *
  have u0 : w3.cell? ⟨ub, 0, none⟩ = some (.bool true) := HG1.out.cell 0
  have u1 : w3.cell? ⟨ub, 1, none⟩ = some (.bool false) := HG1.out.cell 1
  have u2 : w3.cell? ⟨ub, 2, none⟩ = some (.bool true) := HG1.out.cell 2
  have u3 : w3.cell? ⟨ub, 3, none⟩ = some (.bool false) := HG1.out.cell 3
  have u4 : w3.cell? ⟨ub, 4, none⟩ = some (.bool false) := HG1.out.cell 4
  have u5 : w3.cell? ⟨ub, 5, none⟩ = some (.bool false) := HG1.out.cell 5
  have n0 := HG1.out.op.op.c0
  have n1 := HG1.out.op.op.c1
  have n2 := HG1.out.op.op.c2
  have n3 := HG1.out.op.op.c3
  have n4 := HG1.out.op.op.c4
  have n5 := HG1.out.op.op.c5
  have n6 := HG1.out.op.op.c6
  rw [Nat.zero_add] at n1 n2 n3 n4 n5 n6
  have z1 := HG1.out.op.elem.frozen 1
  have z2 := HG1.out.op.elem.frozen 2
  have z3 := HG1.out.op.elem.frozen 3
  have z4 := HG1.out.op.elem.frozen 4
  have z5 := HG1.out.op.elem.frozen 5
  have z6 := HG1.out.op.elem.frozen 6
  clear HG1
  have HFD : Hid (foldF [0, 2] (op0 kd, st) = y2) := by
    show foldF [0, 2] (op0 kd, st) = y2
    rw [HY2.out, HY1.out, HY0.out]; rfl
  rw [HFD.out] at HX
  have HRD := Lib.hid HG.out.rd
  have HC := Lib.hid HG.out.cur
  have hl11 := Nat.le_of_lt (Nat.lt_of_le_of_lt HG.out.obl HG.out.op.elem.lt)
  have HSZ := Lib.hid hl11
  clear hl11
  obtain ⟨i0, hi, hz0, hz1, hz2⟩ := info_parts op_info
  go_wp2_with (at_builtin; refine wpList_append_own _ rfl _ _ 41 rfl lim2 44 i0 (.agg #[.int .u8 0, .int .i64 0, .int .i64 0, .int .i64 0, .int .u32 0, .int .u8 0, .string ⟨#[]⟩]) 7 56 Try.underlying41 hi hz0 hz1 hz2 rfl (by decide) _ _ _ rfl (HC.out.alloc _) ⟨w3.heap.size, 0, none⟩ 1 1 (opCells { y1.1 with num := x1 }) rfl rfl (news_op' _ _ _ _ (by simp)) (one_op _) ?c3 ?c4 ?c5 ?_)
  case c3 => unfold maxLen; omega
  case c4 => omega
  case c5 => exact Nat.le_trans HSZ.out (by simp)
  intro v' w20 hown hgrow _
  have HA := Lib.hid (ops_pushedR (o := { y1.1 with num := x1 }) HRD.out HC.out HSZ.out HL4.out hown hgrow)
  clear hown hgrow HRD HC
  go_wp2_with fail
  exact HX.out v' _ _ _ _ _ _ _ _ _ _ _ _ _ _ _ _ _ _ _ _ _ _ _ _ _ _ _ _ _ _ _ _ _ _ _ _ _ _ _ _ _ _ _ (by rw [HOP.out]; exact HA.out)

set_option maxHeartbeats 4000000 in
set_option maxRecDepth 100000 in
theorem refOp8 (w W : World) (B ob lim2 : Nat) (kd : Int) (st : ByteArray) (cf : CfgV) (v8 v7 : Value) (ps : List (List OpV)) (xs : List OpV)
    (c0 c1 c2 c4 c5 c6 c7 c9 c12 c13 c14 c15 c16 c17 c18 c19 c20 c21 c22 c23 c24 c25 c26 c27 c28 c29 c30 c31 c32 c33 c34 c35 c36 c37 c38 c39 c40 c41 c42 c43 c44 c45 c46 c47 c48 c49 c50 c51 c52 c53 c54 c55 c56 c57 c58 c59 c60 c61 c62 c63 c64 c65 c66 c67 c68 c69 c70 c71 c72 c73 c74 c75 c76 c77 c78 c79 c80 c81 c82 c83 c84 c126 c127 c128 c129 c130 c131 c132 c133 c134 c135 c136 c137 c138 c139 c140 c141 c142 c143 c144 c145 c146 c147 c148 c149 c150 c151 c152 c153 c154 c155 : Value) (u11 u85 u86 u87 u88 u89 u90 u91 u92 u93 u94 u95 u96 u97 u98 u99 u100 u101 u102 u103 u104 u105 u106 u107 u108 u109 u110 u111 u112 u113 u114 u115 u116 u117 u118 u119 u120 u121 u122 u123 u124 u125 : Value) (Q : Exit → Act → World → Prop)
    (hx : ∀ (v' u11 u85 u86 u87 u88 u89 u90 u91 u92 u93 u94 u95 u96 u97 u98 u99 u100 u101 u102 u103 u104 u105 u106 u107 u108 u109 u110 u111 u112 u113 u114 u115 u116 u117 u118 u119 u120 u121 u122 u123 u124 u125 : Value) (W' : World), Hid (RrSt w W' B (foldF [0, 3] (op0 kd, st)).2 lim2 cf v8 (.slice none 0 0) ps [] ∧ CurRow W' lim2 v' (xs ++ [(foldF [0, 3] (op0 kd, st)).1]) ∧ lim2 ≤ W'.heap.size) → Q .normal ⟨List.toArray (c0 :: c1 :: c2 :: (.pointer (some ⟨B + 1, 0, none⟩)) :: c4 :: c5 :: c6 :: c7 :: v' :: c9 :: (.pointer (some ⟨ob, 0, none⟩)) :: u11 :: c12 :: c13 :: c14 :: c15 :: c16 :: c17 :: c18 :: c19 :: c20 :: c21 :: c22 :: c23 :: c24 :: c25 :: c26 :: c27 :: c28 :: c29 :: c30 :: c31 :: c32 :: c33 :: c34 :: c35 :: c36 :: c37 :: c38 :: c39 :: c40 :: c41 :: c42 :: c43 :: c44 :: c45 :: c46 :: c47 :: c48 :: c49 :: c50 :: c51 :: c52 :: c53 :: c54 :: c55 :: c56 :: c57 :: c58 :: c59 :: c60 :: c61 :: c62 :: c63 :: c64 :: c65 :: c66 :: c67 :: c68 :: c69 :: c70 :: c71 :: c72 :: c73 :: c74 :: c75 :: c76 :: c77 :: c78 :: c79 :: c80 :: c81 :: c82 :: c83 :: c84 :: u85 :: u86 :: u87 :: u88 :: u89 :: u90 :: u91 :: u92 :: u93 :: u94 :: u95 :: u96 :: u97 :: u98 :: u99 :: u100 :: u101 :: u102 :: u103 :: u104 :: u105 :: u106 :: u107 :: u108 :: u109 :: u110 :: u111 :: u112 :: u113 :: u114 :: u115 :: u116 :: u117 :: u118 :: u119 :: u120 :: u121 :: u122 :: u123 :: u124 :: u125 :: c126 :: c127 :: c128 :: c129 :: c130 :: c131 :: c132 :: c133 :: c134 :: c135 :: c136 :: c137 :: c138 :: c139 :: c140 :: c141 :: c142 :: c143 :: c144 :: c145 :: c146 :: c147 :: c148 :: c149 :: c150 :: c151 :: c152 :: c153 :: c154 :: c155 :: []), []⟩ W')
    (HQ : Hid (RrSt w W B st lim2 cf v8 (.slice none 0 0) ps [])) (HC : Hid (CurRow W lim2 v7 xs)) (hl : Hid (lim2 ≤ W.heap.size)) (hob : Hid (W.heap.size = ob)) (HL4 : Hid (B + 1 + 1 + 1 ≤ lim2)) (hst : st.size ≤ 3000) (hxl : xs.length < 8)
    (hk1 : 1 ≤ kd) (hk2 : kd ≤ 16) (HU : Hid (usesVal kd = .agg #[.bool true, .bool false, .bool false, .bool true, .bool false, .bool false])) :
    Code.wp Try.prog body13o Q ⟨List.toArray (c0 :: c1 :: c2 :: (.pointer (some ⟨B + 1, 0, none⟩)) :: c4 :: c5 :: c6 :: c7 :: v7 :: c9 :: (.pointer (some ⟨ob, 0, none⟩)) :: u11 :: c12 :: c13 :: c14 :: c15 :: c16 :: c17 :: c18 :: c19 :: c20 :: c21 :: c22 :: c23 :: c24 :: c25 :: c26 :: c27 :: c28 :: c29 :: c30 :: c31 :: c32 :: c33 :: c34 :: c35 :: c36 :: c37 :: c38 :: c39 :: c40 :: c41 :: c42 :: c43 :: c44 :: c45 :: c46 :: c47 :: c48 :: c49 :: c50 :: c51 :: c52 :: c53 :: c54 :: c55 :: c56 :: c57 :: c58 :: c59 :: c60 :: c61 :: c62 :: c63 :: c64 :: c65 :: c66 :: c67 :: c68 :: c69 :: c70 :: c71 :: c72 :: c73 :: c74 :: c75 :: c76 :: c77 :: c78 :: c79 :: c80 :: c81 :: c82 :: c83 :: c84 :: u85 :: u86 :: u87 :: u88 :: u89 :: u90 :: u91 :: u92 :: u93 :: u94 :: u95 :: u96 :: u97 :: u98 :: u99 :: u100 :: u101 :: u102 :: u103 :: u104 :: u105 :: u106 :: u107 :: u108 :: u109 :: u110 :: u111 :: u112 :: u113 :: u114 :: u115 :: u116 :: u117 :: u118 :: u119 :: u120 :: u121 :: u122 :: u123 :: u124 :: u125 :: c126 :: c127 :: c128 :: c129 :: c130 :: c131 :: c132 :: c133 :: c134 :: c135 :: c136 :: c137 :: c138 :: c139 :: c140 :: c141 :: c142 :: c143 :: c144 :: c145 :: c146 :: c147 :: c148 :: c149 :: c150 :: c151 :: c152 :: c153 :: c154 :: c155 :: []), []⟩ (W.alloc (opObj kd)) := by
  have HX := Lib.hid hx
  clear hx
  conv => arg 2; whnf
  have n0 : (W.alloc (opObj kd)).cell? ⟨ob, 0, none⟩ = some (.int .u8 kd) := by rw [World.cell?_alloc_at _ _ _ _ hob.out.symm]; rfl
  go_wp2_with fail
  refine (usesFn kd _ (by omega) (by omega)).mono ?_
  rintro e w1 ⟨rfl, hg⟩
  rw [HU.out]
  obtain ⟨y0, HY0, HG⟩ : ∃ y0 : OpV × ByteArray, Hid (y0 = (op0 kd, st)) ∧ Hid (FrSt w (w1.alloc (.cells #[.bool true, .bool false, .bool false, .bool true, .bool false, .bool false] 57)) B y0.2 lim2 cf v8 (.slice none 0 0) ps [] ob y0.1 v7 xs w1.heap.size #[.bool true, .bool false, .bool false, .bool true, .bool false, .bool false]) := by
    refine ⟨_, rfl, ?_⟩
    have := frst_init (us := #[.bool true, .bool false, .bool false, .bool true, .bool false, .bool false]) HQ.out HC.out hl.out HL4.out hg
    rw [hob.out] at this
    exact this
  clear hg HQ HC n0
  have hub1 : ¬ w1.heap.size = ob := by
    intro e
    have h1 := HG.out.op.elem
    have h2 := HG.out.ut
    rw [e] at h2
    exact h1.ne h2 (by decide) rfl
  have hub2 : ¬ ob = w1.heap.size := fun e => hub1 e.symm
  have hsy0 : y0.2.size ≤ 3000 := by rw [HY0.out]; exact hst
  generalize hub : w1.heap.size = ub at *
  have HUB := Lib.hid hub
  have u0 : (w1.alloc (.cells #[.bool true, .bool false, .bool false, .bool true, .bool false, .bool false] 57)).cell? ⟨ub, 0, none⟩ = some (.bool true) := HG.out.cell 0
  have u1 : (w1.alloc (.cells #[.bool true, .bool false, .bool false, .bool true, .bool false, .bool false] 57)).cell? ⟨ub, 1, none⟩ = some (.bool false) := HG.out.cell 1
  have u2 : (w1.alloc (.cells #[.bool true, .bool false, .bool false, .bool true, .bool false, .bool false] 57)).cell? ⟨ub, 2, none⟩ = some (.bool false) := HG.out.cell 2
  have u3 : (w1.alloc (.cells #[.bool true, .bool false, .bool false, .bool true, .bool false, .bool false] 57)).cell? ⟨ub, 3, none⟩ = some (.bool true) := HG.out.cell 3
  have u4 : (w1.alloc (.cells #[.bool true, .bool false, .bool false, .bool true, .bool false, .bool false] 57)).cell? ⟨ub, 4, none⟩ = some (.bool false) := HG.out.cell 4
  have u5 : (w1.alloc (.cells #[.bool true, .bool false, .bool false, .bool true, .bool false, .bool false] 57)).cell? ⟨ub, 5, none⟩ = some (.bool false) := HG.out.cell 5
  have n0 := HG.out.op.op.c0
  have n1 := HG.out.op.op.c1
  have n2 := HG.out.op.op.c2
  have n3 := HG.out.op.op.c3
  have n4 := HG.out.op.op.c4
  have n5 := HG.out.op.op.c5
  have n6 := HG.out.op.op.c6
  rw [Nat.zero_add] at n1 n2 n3 n4 n5 n6
  have z1 := HG.out.op.elem.frozen 1
  have z2 := HG.out.op.elem.frozen 2
  have z3 := HG.out.op.elem.frozen 3
  have z4 := HG.out.op.elem.frozen 4
  have z5 := HG.out.op.elem.frozen 5
  have z6 := HG.out.op.elem.frozen 6
  go_wp2_with fail
  refine (refNext 4 (B + 1) 56 y0.2 _ HG.out.rd.str hsy0 (by omega) (by omega)).mono ?_
  rintro e w2 ⟨rfl, hb, hg⟩
  have HG1 := Lib.hid (HG.out.next hb hg)
  clear hb hg HG
  clear u0 u1 u2 u3 u4 u5 n0 n1 n2 n3 n4 n5 n6 z1 z2 z3 z4 z5 z6
  have b0 := Int.emod_nonneg (hd y0.2) (show (4 : Int) ≠ 0 by omega)
  have b1 := Int.emod_lt_of_pos (hd y0.2) (show (0 : Int) < 4 by omega)
  have hsz := tl_size y0.2
  obtain ⟨y1, HY1, HG⟩ : ∃ y : OpV × ByteArray, Hid (y = stepF 0 y0) ∧ Hid (FrSt w (w2.setCell ⟨ob, 1, none⟩ (.int .i64 (hd y0.2 % 4))) B y.2 lim2 cf v8 (.slice none 0 0) ps [] ob y.1 v7 xs ub #[.bool true, .bool false, .bool false, .bool true, .bool false, .bool false]) := ⟨_, rfl, HG1.out.set1 (hd y0.2 % 4)⟩
  have hsy1 : y1.2.size ≤ 3000 := by rw [HY1.out]; show (tl y0.2).size ≤ 3000; omega
  have HOP : Hid (y1.1 = { y0.1 with slot := hd y0.2 % 4 }) := by show _ = _; rw [HY1.out]; rfl
  clear hsz
  generalize hd y0.2 % 4 = x0 at *
  have u0 : w2.cell? ⟨ub, 0, none⟩ = some (.bool true) := HG1.out.cell 0
  have u1 : w2.cell? ⟨ub, 1, none⟩ = some (.bool false) := HG1.out.cell 1
  have u2 : w2.cell? ⟨ub, 2, none⟩ = some (.bool false) := HG1.out.cell 2
  have u3 : w2.cell? ⟨ub, 3, none⟩ = some (.bool true) := HG1.out.cell 3
  have u4 : w2.cell? ⟨ub, 4, none⟩ = some (.bool false) := HG1.out.cell 4
  have u5 : w2.cell? ⟨ub, 5, none⟩ = some (.bool false) := HG1.out.cell 5
  have n0 := HG1.out.op.op.c0
  have n1 := HG1.out.op.op.c1
  have n2 := HG1.out.op.op.c2
  have n3 := HG1.out.op.op.c3
  have n4 := HG1.out.op.op.c4
  have n5 := HG1.out.op.op.c5
  have n6 := HG1.out.op.op.c6
  rw [Nat.zero_add] at n1 n2 n3 n4 n5 n6
  have z1 := HG1.out.op.elem.frozen 1
  have z2 := HG1.out.op.elem.frozen 2
  have z3 := HG1.out.op.elem.frozen 3
  have z4 := HG1.out.op.elem.frozen 4
  have z5 := HG1.out.op.elem.frozen 5
  have z6 := HG1.out.op.elem.frozen 6
  clear HG1
  go_wp2_with fail
  refine (refNext 4 (B + 1) 56 y1.2 _ HG.out.rd.str hsy1 (by omega) (by omega)).mono ?_
  rintro e w3 ⟨rfl, hb, hg⟩
  have HG1 := Lib.hid (HG.out.next hb hg)
  clear hb hg HG
  clear u0 u1 u2 u3 u4 u5 n0 n1 n2 n3 n4 n5 n6 z1 z2 z3 z4 z5 z6
  have b0 := Int.emod_nonneg (hd y1.2) (show (4 : Int) ≠ 0 by omega)
  have b1 := Int.emod_lt_of_pos (hd y1.2) (show (0 : Int) < 4 by omega)
  have hsz := tl_size y1.2
  obtain ⟨y2, HY2, HG⟩ : ∃ y : OpV × ByteArray, Hid (y = stepF 3 y1) ∧ Hid (FrSt w (w3.setCell ⟨ob, 4, none⟩ (.int .u32 (hd y1.2 % 4))) B y.2 lim2 cf v8 (.slice none 0 0) ps [] ob y.1 v7 xs ub #[.bool true, .bool false, .bool false, .bool true, .bool false, .bool false]) := ⟨_, rfl, HG1.out.set4 (hd y1.2 % 4)⟩
  have hsy2 : y2.2.size ≤ 3000 := by rw [HY2.out]; show (tl y1.2).size ≤ 3000; omega
  have HOP : Hid (y2.1 = { y1.1 with id := hd y1.2 % 4 }) := by show _ = _; rw [HY2.out]; rfl
  clear hsz
  generalize hd y1.2 % 4 = x1 at *
  have u0 : w3.cell? ⟨ub, 0, none⟩ = some (.bool true) := HG1.out.cell 0
  have u1 : w3.cell? ⟨ub, 1, none⟩ = some (.bool false) := HG1.out.cell 1
  have u2 : w3.cell? ⟨ub, 2, none⟩ = some (.bool false) := HG1.out.cell 2
  have u3 : w3.cell? ⟨ub, 3, none⟩ = some (.bool true) := HG1.out.cell 3
  have u4 : w3.cell? ⟨ub, 4, none⟩ = some (.bool false) := HG1.out.cell 4
  have u5 : w3.cell? ⟨ub, 5, none⟩ = some (.bool false) := HG1.out.cell 5
  have n0 := HG1.out.op.op.c0
  have n1 := HG1.out.op.op.c1
  have n2 := HG1.out.op.op.c2
  have n3 := HG1.out.op.op.c3
  have n4 := HG1.out.op.op.c4
  have n5 := HG1.out.op.op.c5
  have n6 := HG1.out.op.op.c6
  rw [Nat.zero_add] at n1 n2 n3 n4 n5 n6
  have z1 := HG1.out.op.elem.frozen 1
  have z2 := HG1.out.op.elem.frozen 2
  have z3 := HG1.out.op.elem.frozen 3
  have z4 := HG1.out.op.elem.frozen 4
  have z5 := HG1.out.op.elem.frozen 5
  have z6 := HG1.out.op.elem.frozen 6
  clear HG1
  have HFD : Hid (foldF [0, 3] (op0 kd, st) = y2) := by
    show foldF [0, 3] (op0 kd, st) = y2
    rw [HY2.out, HY1.out, HY0.out]; rfl
  rw [HFD.out] at HX
  have HRD := Lib.hid HG.out.rd
  have HC := Lib.hid HG.out.cur
  have hl11 := Nat.le_of_lt (Nat.lt_of_le_of_lt HG.out.obl HG.out.op.elem.lt)
  have HSZ := Lib.hid hl11
  clear hl11
  obtain ⟨i0, hi, hz0, hz1, hz2⟩ := info_parts op_info
  go_wp2_with (at_builtin; refine wpList_append_own _ rfl _ _ 41 rfl lim2 44 i0 (.agg #[.int .u8 0, .int .i64 0, .int .i64 0, .int .i64 0, .int .u32 0, .int .u8 0, .string ⟨#[]⟩]) 7 56 Try.underlying41 hi hz0 hz1 hz2 rfl (by decide) _ _ _ rfl (HC.out.alloc _) ⟨w3.heap.size, 0, none⟩ 1 1 (opCells { y1.1 with id := x1 }) rfl rfl (news_op' _ _ _ _ (by simp)) (one_op _) ?c3 ?c4 ?c5 ?_)
  case c3 => unfold maxLen; omega
  case c4 => omega
  case c5 => exact Nat.le_trans HSZ.out (by simp)
  intro v' w20 hown hgrow _
  have HA := Lib.hid (ops_pushedR (o := { y1.1 with id := x1 }) HRD.out HC.out HSZ.out HL4.out hown hgrow)
  clear hown hgrow HRD HC
  go_wp2_with fail
  exact HX.out v' _ _ _ _ _ _ _ _ _ _ _ _ _ _ _ _ _ _ _ _ _ _ _ _ _ _ _ _ _ _ _ _ _ _ _ _ _ _ _ _ _ _ _ (by rw [HOP.out]; exact HA.out)

set_option maxHeartbeats 4000000 in
set_option maxRecDepth 100000 in
theorem refOp9 (w W : World) (B ob lim2 : Nat) (kd : Int) (st : ByteArray) (cf : CfgV) (v8 v7 : Value) (ps : List (List OpV)) (xs : List OpV)
    (c0 c1 c2 c4 c5 c6 c7 c9 c12 c13 c14 c15 c16 c17 c18 c19 c20 c21 c22 c23 c24 c25 c26 c27 c28 c29 c30 c31 c32 c33 c34 c35 c36 c37 c38 c39 c40 c41 c42 c43 c44 c45 c46 c47 c48 c49 c50 c51 c52 c53 c54 c55 c56 c57 c58 c59 c60 c61 c62 c63 c64 c65 c66 c67 c68 c69 c70 c71 c72 c73 c74 c75 c76 c77 c78 c79 c80 c81 c82 c83 c84 c126 c127 c128 c129 c130 c131 c132 c133 c134 c135 c136 c137 c138 c139 c140 c141 c142 c143 c144 c145 c146 c147 c148 c149 c150 c151 c152 c153 c154 c155 : Value) (u11 u85 u86 u87 u88 u89 u90 u91 u92 u93 u94 u95 u96 u97 u98 u99 u100 u101 u102 u103 u104 u105 u106 u107 u108 u109 u110 u111 u112 u113 u114 u115 u116 u117 u118 u119 u120 u121 u122 u123 u124 u125 : Value) (Q : Exit → Act → World → Prop)
    (hx : ∀ (v' u11 u85 u86 u87 u88 u89 u90 u91 u92 u93 u94 u95 u96 u97 u98 u99 u100 u101 u102 u103 u104 u105 u106 u107 u108 u109 u110 u111 u112 u113 u114 u115 u116 u117 u118 u119 u120 u121 u122 u123 u124 u125 : Value) (W' : World), Hid (RrSt w W' B (foldF [0, 1] (op0 kd, st)).2 lim2 cf v8 (.slice none 0 0) ps [] ∧ CurRow W' lim2 v' (xs ++ [(foldF [0, 1] (op0 kd, st)).1]) ∧ lim2 ≤ W'.heap.size) → Q .normal ⟨List.toArray (c0 :: c1 :: c2 :: (.pointer (some ⟨B + 1, 0, none⟩)) :: c4 :: c5 :: c6 :: c7 :: v' :: c9 :: (.pointer (some ⟨ob, 0, none⟩)) :: u11 :: c12 :: c13 :: c14 :: c15 :: c16 :: c17 :: c18 :: c19 :: c20 :: c21 :: c22 :: c23 :: c24 :: c25 :: c26 :: c27 :: c28 :: c29 :: c30 :: c31 :: c32 :: c33 :: c34 :: c35 :: c36 :: c37 :: c38 :: c39 :: c40 :: c41 :: c42 :: c43 :: c44 :: c45 :: c46 :: c47 :: c48 :: c49 :: c50 :: c51 :: c52 :: c53 :: c54 :: c55 :: c56 :: c57 :: c58 :: c59 :: c60 :: c61 :: c62 :: c63 :: c64 :: c65 :: c66 :: c67 :: c68 :: c69 :: c70 :: c71 :: c72 :: c73 :: c74 :: c75 :: c76 :: c77 :: c78 :: c79 :: c80 :: c81 :: c82 :: c83 :: c84 :: u85 :: u86 :: u87 :: u88 :: u89 :: u90 :: u91 :: u92 :: u93 :: u94 :: u95 :: u96 :: u97 :: u98 :: u99 :: u100 :: u101 :: u102 :: u103 :: u104 :: u105 :: u106 :: u107 :: u108 :: u109 :: u110 :: u111 :: u112 :: u113 :: u114 :: u115 :: u116 :: u117 :: u118 :: u119 :: u120 :: u121 :: u122 :: u123 :: u124 :: u125 :: c126 :: c127 :: c128 :: c129 :: c130 :: c131 :: c132 :: c133 :: c134 :: c135 :: c136 :: c137 :: c138 :: c139 :: c140 :: c141 :: c142 :: c143 :: c144 :: c145 :: c146 :: c147 :: c148 :: c149 :: c150 :: c151 :: c152 :: c153 :: c154 :: c155 :: []), []⟩ W')
    (HQ : Hid (RrSt w W B st lim2 cf v8 (.slice none 0 0) ps [])) (HC : Hid (CurRow W lim2 v7 xs)) (hl : Hid (lim2 ≤ W.heap.size)) (hob : Hid (W.heap.size = ob)) (HL4 : Hid (B + 1 + 1 + 1 ≤ lim2)) (hst : st.size ≤ 3000) (hxl : xs.length < 8)
    (hk1 : 1 ≤ kd) (hk2 : kd ≤ 16) (HU : Hid (usesVal kd = .agg #[.bool true, .bool true, .bool false, .bool false, .bool false, .bool false])) :
    Code.wp Try.prog body13o Q ⟨List.toArray (c0 :: c1 :: c2 :: (.pointer (some ⟨B + 1, 0, none⟩)) :: c4 :: c5 :: c6 :: c7 :: v7 :: c9 :: (.pointer (some ⟨ob, 0, none⟩)) :: u11 :: c12 :: c13 :: c14 :: c15 :: c16 :: c17 :: c18 :: c19 :: c20 :: c21 :: c22 :: c23 :: c24 :: c25 :: c26 :: c27 :: c28 :: c29 :: c30 :: c31 :: c32 :: c33 :: c34 :: c35 :: c36 :: c37 :: c38 :: c39 :: c40 :: c41 :: c42 :: c43 :: c44 :: c45 :: c46 :: c47 :: c48 :: c49 :: c50 :: c51 :: c52 :: c53 :: c54 :: c55 :: c56 :: c57 :: c58 :: c59 :: c60 :: c61 :: c62 :: c63 :: c64 :: c65 :: c66 :: c67 :: c68 :: c69 :: c70 :: c71 :: c72 :: c73 :: c74 :: c75 :: c76 :: c77 :: c78 :: c79 :: c80 :: c81 :: c82 :: c83 :: c84 :: u85 :: u86 :: u87 :: u88 :: u89 :: u90 :: u91 :: u92 :: u93 :: u94 :: u95 :: u96 :: u97 :: u98 :: u99 :: u100 :: u101 :: u102 :: u103 :: u104 :: u105 :: u106 :: u107 :: u108 :: u109 :: u110 :: u111 :: u112 :: u113 :: u114 :: u115 :: u116 :: u117 :: u118 :: u119 :: u120 :: u121 :: u122 :: u123 :: u124 :: u125 :: c126 :: c127 :: c128 :: c129 :: c130 :: c131 :: c132 :: c133 :: c134 :: c135 :: c136 :: c137 :: c138 :: c139 :: c140 :: c141 :: c142 :: c143 :: c144 :: c145 :: c146 :: c147 :: c148 :: c149 :: c150 :: c151 :: c152 :: c153 :: c154 :: c155 :: []), []⟩ (W.alloc (opObj kd)) := by
  have HX := Lib.hid hx
  clear hx
  conv => arg 2; whnf
  have n0 : (W.alloc (opObj kd)).cell? ⟨ob, 0, none⟩ = some (.int .u8 kd) := by rw [World.cell?_alloc_at _ _ _ _ hob.out.symm]; rfl
  go_wp2_with fail
  refine (usesFn kd _ (by omega) (by omega)).mono ?_
  rintro e w1 ⟨rfl, hg⟩
  rw [HU.out]
  obtain ⟨y0, HY0, HG⟩ : ∃ y0 : OpV × ByteArray, Hid (y0 = (op0 kd, st)) ∧ Hid (FrSt w (w1.alloc (.cells #[.bool true, .bool true, .bool false, .bool false, .bool false, .bool false] 57)) B y0.2 lim2 cf v8 (.slice none 0 0) ps [] ob y0.1 v7 xs w1.heap.size #[.bool true, .bool true, .bool false, .bool false, .bool false, .bool false]) := by
    refine ⟨_, rfl, ?_⟩
    have := frst_init (us := #[.bool true, .bool true, .bool false, .bool false, .bool false, .bool false]) HQ.out HC.out hl.out HL4.out hg
    rw [hob.out] at this
    exact this
  clear hg HQ HC n0
  have hub1 : ¬ w1.heap.size = ob := by
    intro e
    have h1 := HG.out.op.elem
    have h2 := HG.out.ut
    rw [e] at h2
    exact h1.ne h2 (by decide) rfl
  have hub2 : ¬ ob = w1.heap.size := fun e => hub1 e.symm
  have hsy0 : y0.2.size ≤ 3000 := by rw [HY0.out]; exact hst
  generalize hub : w1.heap.size = ub at *
  have HUB := Lib.hid hub
  have u0 : (w1.alloc (.cells #[.bool true, .bool true, .bool false, .bool false, .bool false, .bool false] 57)).cell? ⟨ub, 0, none⟩ = some (.bool true) := HG.out.cell 0
  have u1 : (w1.alloc (.cells #[.bool true, .bool true, .bool false, .bool false, .bool false, .bool false] 57)).cell? ⟨ub, 1, none⟩ = some (.bool true) := HG.out.cell 1
  have u2 : (w1.alloc (.cells #[.bool true, .bool true, .bool false, .bool false, .bool false, .bool false] 57)).cell? ⟨ub, 2, none⟩ = some (.bool false) := HG.out.cell 2
  have u3 : (w1.alloc (.cells #[.bool true, .bool true, .bool false, .bool false, .bool false, .bool false] 57)).cell? ⟨ub, 3, none⟩ = some (.bool false) := HG.out.cell 3
  have u4 : (w1.alloc (.cells #[.bool true, .bool true, .bool false, .bool false, .bool false, .bool false] 57)).cell? ⟨ub, 4, none⟩ = some (.bool false) := HG.out.cell 4
  have u5 : (w1.alloc (.cells #[.bool true, .bool true, .bool false, .bool false, .bool false, .bool false] 57)).cell? ⟨ub, 5, none⟩ = some (.bool false) := HG.out.cell 5
  have n0 := HG.out.op.op.c0
  have n1 := HG.out.op.op.c1
  have n2 := HG.out.op.op.c2
  have n3 := HG.out.op.op.c3
  have n4 := HG.out.op.op.c4
  have n5 := HG.out.op.op.c5
  have n6 := HG.out.op.op.c6
  rw [Nat.zero_add] at n1 n2 n3 n4 n5 n6
  have z1 := HG.out.op.elem.frozen 1
  have z2 := HG.out.op.elem.frozen 2
  have z3 := HG.out.op.elem.frozen 3
  have z4 := HG.out.op.elem.frozen 4
  have z5 := HG.out.op.elem.frozen 5
  have z6 := HG.out.op.elem.frozen 6
  go_wp2_with fail
  refine (refNext 4 (B + 1) 56 y0.2 _ HG.out.rd.str hsy0 (by omega) (by omega)).mono ?_
  rintro e w2 ⟨rfl, hb, hg⟩
  have HG1 := Lib.hid (HG.out.next hb hg)
  clear hb hg HG
  clear u0 u1 u2 u3 u4 u5 n0 n1 n2 n3 n4 n5 n6 z1 z2 z3 z4 z5 z6
  have b0 := Int.emod_nonneg (hd y0.2) (show (4 : Int) ≠ 0 by omega)
  have b1 := Int.emod_lt_of_pos (hd y0.2) (show (0 : Int) < 4 by omega)
  have hsz := tl_size y0.2
  obtain ⟨y1, HY1, HG⟩ : ∃ y : OpV × ByteArray, Hid (y = stepF 0 y0) ∧ Hid (FrSt w (w2.setCell ⟨ob, 1, none⟩ (.int .i64 (hd y0.2 % 4))) B y.2 lim2 cf v8 (.slice none 0 0) ps [] ob y.1 v7 xs ub #[.bool true, .bool true, .bool false, .bool false, .bool false, .bool false]) := ⟨_, rfl, HG1.out.set1 (hd y0.2 % 4)⟩
  have hsy1 : y1.2.size ≤ 3000 := by rw [HY1.out]; show (tl y0.2).size ≤ 3000; omega
  have HOP : Hid (y1.1 = { y0.1 with slot := hd y0.2 % 4 }) := by show _ = _; rw [HY1.out]; rfl
  clear hsz
  generalize hd y0.2 % 4 = x0 at *
  have u0 : w2.cell? ⟨ub, 0, none⟩ = some (.bool true) := HG1.out.cell 0
  have u1 : w2.cell? ⟨ub, 1, none⟩ = some (.bool true) := HG1.out.cell 1
  have u2 : w2.cell? ⟨ub, 2, none⟩ = some (.bool false) := HG1.out.cell 2
  have u3 : w2.cell? ⟨ub, 3, none⟩ = some (.bool false) := HG1.out.cell 3
  have u4 : w2.cell? ⟨ub, 4, none⟩ = some (.bool false) := HG1.out.cell 4
  have u5 : w2.cell? ⟨ub, 5, none⟩ = some (.bool false) := HG1.out.cell 5
  have n0 := HG1.out.op.op.c0
  have n1 := HG1.out.op.op.c1
  have n2 := HG1.out.op.op.c2
  have n3 := HG1.out.op.op.c3
  have n4 := HG1.out.op.op.c4
  have n5 := HG1.out.op.op.c5
  have n6 := HG1.out.op.op.c6
  rw [Nat.zero_add] at n1 n2 n3 n4 n5 n6
  have z1 := HG1.out.op.elem.frozen 1
  have z2 := HG1.out.op.elem.frozen 2
  have z3 := HG1.out.op.elem.frozen 3
  have z4 := HG1.out.op.elem.frozen 4
  have z5 := HG1.out.op.elem.frozen 5
  have z6 := HG1.out.op.elem.frozen 6
  clear HG1
  go_wp2_with fail
  refine (refNext 64 (B + 1) 56 y1.2 _ HG.out.rd.str hsy1 (by omega) (by omega)).mono ?_
  rintro e w3 ⟨rfl, hb, hg⟩
  have HG1 := Lib.hid (HG.out.next hb hg)
  clear hb hg HG
  clear u0 u1 u2 u3 u4 u5 n0 n1 n2 n3 n4 n5 n6 z1 z2 z3 z4 z5 z6
  have b0 := Int.emod_nonneg (hd y1.2) (show (64 : Int) ≠ 0 by omega)
  have b1 := Int.emod_lt_of_pos (hd y1.2) (show (0 : Int) < 64 by omega)
  have hsz := tl_size y1.2
  obtain ⟨y2, HY2, HG⟩ : ∃ y : OpV × ByteArray, Hid (y = stepF 1 y1) ∧ Hid (FrSt w (w3.setCell ⟨ob, 2, none⟩ (.int .i64 (hd y1.2 % 64))) B y.2 lim2 cf v8 (.slice none 0 0) ps [] ob y.1 v7 xs ub #[.bool true, .bool true, .bool false, .bool false, .bool false, .bool false]) := ⟨_, rfl, HG1.out.set2 (hd y1.2 % 64)⟩
  have hsy2 : y2.2.size ≤ 3000 := by rw [HY2.out]; show (tl y1.2).size ≤ 3000; omega
  have HOP : Hid (y2.1 = { y1.1 with pos := hd y1.2 % 64 }) := by show _ = _; rw [HY2.out]; rfl
  clear hsz
  generalize hd y1.2 % 64 = x1 at *
  have u0 : w3.cell? ⟨ub, 0, none⟩ = some (.bool true) := HG1.out.cell 0
  have u1 : w3.cell? ⟨ub, 1, none⟩ = some (.bool true) := HG1.out.cell 1
  have u2 : w3.cell? ⟨ub, 2, none⟩ = some (.bool false) := HG1.out.cell 2
  have u3 : w3.cell? ⟨ub, 3, none⟩ = some (.bool false) := HG1.out.cell 3
  have u4 : w3.cell? ⟨ub, 4, none⟩ = some (.bool false) := HG1.out.cell 4
  have u5 : w3.cell? ⟨ub, 5, none⟩ = some (.bool false) := HG1.out.cell 5
  have n0 := HG1.out.op.op.c0
  have n1 := HG1.out.op.op.c1
  have n2 := HG1.out.op.op.c2
  have n3 := HG1.out.op.op.c3
  have n4 := HG1.out.op.op.c4
  have n5 := HG1.out.op.op.c5
  have n6 := HG1.out.op.op.c6
  rw [Nat.zero_add] at n1 n2 n3 n4 n5 n6
  have z1 := HG1.out.op.elem.frozen 1
  have z2 := HG1.out.op.elem.frozen 2
  have z3 := HG1.out.op.elem.frozen 3
  have z4 := HG1.out.op.elem.frozen 4
  have z5 := HG1.out.op.elem.frozen 5
  have z6 := HG1.out.op.elem.frozen 6
  clear HG1
  have HFD : Hid (foldF [0, 1] (op0 kd, st) = y2) := by
    show foldF [0, 1] (op0 kd, st) = y2
    rw [HY2.out, HY1.out, HY0.out]; rfl
  rw [HFD.out] at HX
  have HRD := Lib.hid HG.out.rd
  have HC := Lib.hid HG.out.cur
  have hl11 := Nat.le_of_lt (Nat.lt_of_le_of_lt HG.out.obl HG.out.op.elem.lt)
  have HSZ := Lib.hid hl11
  clear hl11
  obtain ⟨i0, hi, hz0, hz1, hz2⟩ := info_parts op_info
  go_wp2_with (at_builtin; refine wpList_append_own _ rfl _ _ 41 rfl lim2 44 i0 (.agg #[.int .u8 0, .int .i64 0, .int .i64 0, .int .i64 0, .int .u32 0, .int .u8 0, .string ⟨#[]⟩]) 7 56 Try.underlying41 hi hz0 hz1 hz2 rfl (by decide) _ _ _ rfl (HC.out.alloc _) ⟨w3.heap.size, 0, none⟩ 1 1 (opCells { y1.1 with pos := x1 }) rfl rfl (news_op' _ _ _ _ (by simp)) (one_op _) ?c3 ?c4 ?c5 ?_)
  case c3 => unfold maxLen; omega
  case c4 => omega
  case c5 => exact Nat.le_trans HSZ.out (by simp)
  intro v' w20 hown hgrow _
  have HA := Lib.hid (ops_pushedR (o := { y1.1 with pos := x1 }) HRD.out HC.out HSZ.out HL4.out hown hgrow)
  clear hown hgrow HRD HC
  go_wp2_with fail
  exact HX.out v' _ _ _ _ _ _ _ _ _ _ _ _ _ _ _ _ _ _ _ _ _ _ _ _ _ _ _ _ _ _ _ _ _ _ _ _ _ _ _ _ _ _ _ (by rw [HOP.out]; exact HA.out)

theorem refOp (w W : World) (B ob lim2 : Nat) (kd : Int) (st : ByteArray) (cf : CfgV) (v8 v7 : Value) (ps : List (List OpV)) (xs : List OpV)
    (c0 c1 c2 c4 c5 c6 c7 c9 c12 c13 c14 c15 c16 c17 c18 c19 c20 c21 c22 c23 c24 c25 c26 c27 c28 c29 c30 c31 c32 c33 c34 c35 c36 c37 c38 c39 c40 c41 c42 c43 c44 c45 c46 c47 c48 c49 c50 c51 c52 c53 c54 c55 c56 c57 c58 c59 c60 c61 c62 c63 c64 c65 c66 c67 c68 c69 c70 c71 c72 c73 c74 c75 c76 c77 c78 c79 c80 c81 c82 c83 c84 c126 c127 c128 c129 c130 c131 c132 c133 c134 c135 c136 c137 c138 c139 c140 c141 c142 c143 c144 c145 c146 c147 c148 c149 c150 c151 c152 c153 c154 c155 : Value) (u11 u85 u86 u87 u88 u89 u90 u91 u92 u93 u94 u95 u96 u97 u98 u99 u100 u101 u102 u103 u104 u105 u106 u107 u108 u109 u110 u111 u112 u113 u114 u115 u116 u117 u118 u119 u120 u121 u122 u123 u124 u125 : Value) (Q : Exit → Act → World → Prop)
    (hx : ∀ (v' u11 u85 u86 u87 u88 u89 u90 u91 u92 u93 u94 u95 u96 u97 u98 u99 u100 u101 u102 u103 u104 u105 u106 u107 u108 u109 u110 u111 u112 u113 u114 u115 u116 u117 u118 u119 u120 u121 u122 u123 u124 u125 : Value) (W' : World), Hid (RrSt w W' B (foldF (fieldsOf kd) (op0 kd, st)).2 lim2 cf v8 (.slice none 0 0) ps [] ∧ CurRow W' lim2 v' (xs ++ [(foldF (fieldsOf kd) (op0 kd, st)).1]) ∧ lim2 ≤ W'.heap.size) → Q .normal ⟨List.toArray (c0 :: c1 :: c2 :: (.pointer (some ⟨B + 1, 0, none⟩)) :: c4 :: c5 :: c6 :: c7 :: v' :: c9 :: (.pointer (some ⟨ob, 0, none⟩)) :: u11 :: c12 :: c13 :: c14 :: c15 :: c16 :: c17 :: c18 :: c19 :: c20 :: c21 :: c22 :: c23 :: c24 :: c25 :: c26 :: c27 :: c28 :: c29 :: c30 :: c31 :: c32 :: c33 :: c34 :: c35 :: c36 :: c37 :: c38 :: c39 :: c40 :: c41 :: c42 :: c43 :: c44 :: c45 :: c46 :: c47 :: c48 :: c49 :: c50 :: c51 :: c52 :: c53 :: c54 :: c55 :: c56 :: c57 :: c58 :: c59 :: c60 :: c61 :: c62 :: c63 :: c64 :: c65 :: c66 :: c67 :: c68 :: c69 :: c70 :: c71 :: c72 :: c73 :: c74 :: c75 :: c76 :: c77 :: c78 :: c79 :: c80 :: c81 :: c82 :: c83 :: c84 :: u85 :: u86 :: u87 :: u88 :: u89 :: u90 :: u91 :: u92 :: u93 :: u94 :: u95 :: u96 :: u97 :: u98 :: u99 :: u100 :: u101 :: u102 :: u103 :: u104 :: u105 :: u106 :: u107 :: u108 :: u109 :: u110 :: u111 :: u112 :: u113 :: u114 :: u115 :: u116 :: u117 :: u118 :: u119 :: u120 :: u121 :: u122 :: u123 :: u124 :: u125 :: c126 :: c127 :: c128 :: c129 :: c130 :: c131 :: c132 :: c133 :: c134 :: c135 :: c136 :: c137 :: c138 :: c139 :: c140 :: c141 :: c142 :: c143 :: c144 :: c145 :: c146 :: c147 :: c148 :: c149 :: c150 :: c151 :: c152 :: c153 :: c154 :: c155 :: []), []⟩ W')
    (HQ : Hid (RrSt w W B st lim2 cf v8 (.slice none 0 0) ps [])) (HC : Hid (CurRow W lim2 v7 xs)) (hl : Hid (lim2 ≤ W.heap.size)) (hob : Hid (W.heap.size = ob)) (HL4 : Hid (B + 1 + 1 + 1 ≤ lim2)) (hst : st.size ≤ 3000) (hxl : xs.length < 8)
    (hk1 : 1 ≤ kd) (hk2 : kd ≤ 16) :
    Code.wp Try.prog body13o Q ⟨List.toArray (c0 :: c1 :: c2 :: (.pointer (some ⟨B + 1, 0, none⟩)) :: c4 :: c5 :: c6 :: c7 :: v7 :: c9 :: (.pointer (some ⟨ob, 0, none⟩)) :: u11 :: c12 :: c13 :: c14 :: c15 :: c16 :: c17 :: c18 :: c19 :: c20 :: c21 :: c22 :: c23 :: c24 :: c25 :: c26 :: c27 :: c28 :: c29 :: c30 :: c31 :: c32 :: c33 :: c34 :: c35 :: c36 :: c37 :: c38 :: c39 :: c40 :: c41 :: c42 :: c43 :: c44 :: c45 :: c46 :: c47 :: c48 :: c49 :: c50 :: c51 :: c52 :: c53 :: c54 :: c55 :: c56 :: c57 :: c58 :: c59 :: c60 :: c61 :: c62 :: c63 :: c64 :: c65 :: c66 :: c67 :: c68 :: c69 :: c70 :: c71 :: c72 :: c73 :: c74 :: c75 :: c76 :: c77 :: c78 :: c79 :: c80 :: c81 :: c82 :: c83 :: c84 :: u85 :: u86 :: u87 :: u88 :: u89 :: u90 :: u91 :: u92 :: u93 :: u94 :: u95 :: u96 :: u97 :: u98 :: u99 :: u100 :: u101 :: u102 :: u103 :: u104 :: u105 :: u106 :: u107 :: u108 :: u109 :: u110 :: u111 :: u112 :: u113 :: u114 :: u115 :: u116 :: u117 :: u118 :: u119 :: u120 :: u121 :: u122 :: u123 :: u124 :: u125 :: c126 :: c127 :: c128 :: c129 :: c130 :: c131 :: c132 :: c133 :: c134 :: c135 :: c136 :: c137 :: c138 :: c139 :: c140 :: c141 :: c142 :: c143 :: c144 :: c145 :: c146 :: c147 :: c148 :: c149 :: c150 :: c151 :: c152 :: c153 :: c154 :: c155 :: []), []⟩ (W.alloc (opObj kd)) := by
  have hk : kd = 1 ∨ kd = 2 ∨ kd = 3 ∨ kd = 4 ∨ kd = 5 ∨ kd = 6 ∨ kd = 7 ∨ kd = 8 ∨ kd = 9 ∨ kd = 10 ∨ kd = 11 ∨ kd = 12 ∨ kd = 13 ∨ kd = 14 ∨ kd = 15 ∨ kd = 16 := by omega
  rcases hk with rfl | rfl | rfl | rfl | rfl | rfl | rfl | rfl | rfl | rfl | rfl | rfl | rfl | rfl | rfl | rfl
  · exact refOp0 w W B ob lim2 1 st cf v8 v7 ps xs c0 c1 c2 c4 c5 c6 c7 c9 c12 c13 c14 c15 c16 c17 c18 c19 c20 c21 c22 c23 c24 c25 c26 c27 c28 c29 c30 c31 c32 c33 c34 c35 c36 c37 c38 c39 c40 c41 c42 c43 c44 c45 c46 c47 c48 c49 c50 c51 c52 c53 c54 c55 c56 c57 c58 c59 c60 c61 c62 c63 c64 c65 c66 c67 c68 c69 c70 c71 c72 c73 c74 c75 c76 c77 c78 c79 c80 c81 c82 c83 c84 c126 c127 c128 c129 c130 c131 c132 c133 c134 c135 c136 c137 c138 c139 c140 c141 c142 c143 c144 c145 c146 c147 c148 c149 c150 c151 c152 c153 c154 c155 u11 u85 u86 u87 u88 u89 u90 u91 u92 u93 u94 u95 u96 u97 u98 u99 u100 u101 u102 u103 u104 u105 u106 u107 u108 u109 u110 u111 u112 u113 u114 u115 u116 u117 u118 u119 u120 u121 u122 u123 u124 u125 Q hx HQ HC hl hob HL4 hst hxl hk1 hk2 rfl
  · exact refOp1 w W B ob lim2 2 st cf v8 v7 ps xs c0 c1 c2 c4 c5 c6 c7 c9 c12 c13 c14 c15 c16 c17 c18 c19 c20 c21 c22 c23 c24 c25 c26 c27 c28 c29 c30 c31 c32 c33 c34 c35 c36 c37 c38 c39 c40 c41 c42 c43 c44 c45 c46 c47 c48 c49 c50 c51 c52 c53 c54 c55 c56 c57 c58 c59 c60 c61 c62 c63 c64 c65 c66 c67 c68 c69 c70 c71 c72 c73 c74 c75 c76 c77 c78 c79 c80 c81 c82 c83 c84 c126 c127 c128 c129 c130 c131 c132 c133 c134 c135 c136 c137 c138 c139 c140 c141 c142 c143 c144 c145 c146 c147 c148 c149 c150 c151 c152 c153 c154 c155 u11 u85 u86 u87 u88 u89 u90 u91 u92 u93 u94 u95 u96 u97 u98 u99 u100 u101 u102 u103 u104 u105 u106 u107 u108 u109 u110 u111 u112 u113 u114 u115 u116 u117 u118 u119 u120 u121 u122 u123 u124 u125 Q hx HQ HC hl hob HL4 hst hxl hk1 hk2 rfl
  · exact refOp2 w W B ob lim2 3 st cf v8 v7 ps xs c0 c1 c2 c4 c5 c6 c7 c9 c12 c13 c14 c15 c16 c17 c18 c19 c20 c21 c22 c23 c24 c25 c26 c27 c28 c29 c30 c31 c32 c33 c34 c35 c36 c37 c38 c39 c40 c41 c42 c43 c44 c45 c46 c47 c48 c49 c50 c51 c52 c53 c54 c55 c56 c57 c58 c59 c60 c61 c62 c63 c64 c65 c66 c67 c68 c69 c70 c71 c72 c73 c74 c75 c76 c77 c78 c79 c80 c81 c82 c83 c84 c126 c127 c128 c129 c130 c131 c132 c133 c134 c135 c136 c137 c138 c139 c140 c141 c142 c143 c144 c145 c146 c147 c148 c149 c150 c151 c152 c153 c154 c155 u11 u85 u86 u87 u88 u89 u90 u91 u92 u93 u94 u95 u96 u97 u98 u99 u100 u101 u102 u103 u104 u105 u106 u107 u108 u109 u110 u111 u112 u113 u114 u115 u116 u117 u118 u119 u120 u121 u122 u123 u124 u125 Q hx HQ HC hl hob HL4 hst hxl hk1 hk2 rfl
  · exact refOp3 w W B ob lim2 4 st cf v8 v7 ps xs c0 c1 c2 c4 c5 c6 c7 c9 c12 c13 c14 c15 c16 c17 c18 c19 c20 c21 c22 c23 c24 c25 c26 c27 c28 c29 c30 c31 c32 c33 c34 c35 c36 c37 c38 c39 c40 c41 c42 c43 c44 c45 c46 c47 c48 c49 c50 c51 c52 c53 c54 c55 c56 c57 c58 c59 c60 c61 c62 c63 c64 c65 c66 c67 c68 c69 c70 c71 c72 c73 c74 c75 c76 c77 c78 c79 c80 c81 c82 c83 c84 c126 c127 c128 c129 c130 c131 c132 c133 c134 c135 c136 c137 c138 c139 c140 c141 c142 c143 c144 c145 c146 c147 c148 c149 c150 c151 c152 c153 c154 c155 u11 u85 u86 u87 u88 u89 u90 u91 u92 u93 u94 u95 u96 u97 u98 u99 u100 u101 u102 u103 u104 u105 u106 u107 u108 u109 u110 u111 u112 u113 u114 u115 u116 u117 u118 u119 u120 u121 u122 u123 u124 u125 Q hx HQ HC hl hob HL4 hst hxl hk1 hk2 rfl
  · exact refOp4 w W B ob lim2 5 st cf v8 v7 ps xs c0 c1 c2 c4 c5 c6 c7 c9 c12 c13 c14 c15 c16 c17 c18 c19 c20 c21 c22 c23 c24 c25 c26 c27 c28 c29 c30 c31 c32 c33 c34 c35 c36 c37 c38 c39 c40 c41 c42 c43 c44 c45 c46 c47 c48 c49 c50 c51 c52 c53 c54 c55 c56 c57 c58 c59 c60 c61 c62 c63 c64 c65 c66 c67 c68 c69 c70 c71 c72 c73 c74 c75 c76 c77 c78 c79 c80 c81 c82 c83 c84 c126 c127 c128 c129 c130 c131 c132 c133 c134 c135 c136 c137 c138 c139 c140 c141 c142 c143 c144 c145 c146 c147 c148 c149 c150 c151 c152 c153 c154 c155 u11 u85 u86 u87 u88 u89 u90 u91 u92 u93 u94 u95 u96 u97 u98 u99 u100 u101 u102 u103 u104 u105 u106 u107 u108 u109 u110 u111 u112 u113 u114 u115 u116 u117 u118 u119 u120 u121 u122 u123 u124 u125 Q hx HQ HC hl hob HL4 hst hxl hk1 hk2 rfl
  · exact refOp5 w W B ob lim2 6 st cf v8 v7 ps xs c0 c1 c2 c4 c5 c6 c7 c9 c12 c13 c14 c15 c16 c17 c18 c19 c20 c21 c22 c23 c24 c25 c26 c27 c28 c29 c30 c31 c32 c33 c34 c35 c36 c37 c38 c39 c40 c41 c42 c43 c44 c45 c46 c47 c48 c49 c50 c51 c52 c53 c54 c55 c56 c57 c58 c59 c60 c61 c62 c63 c64 c65 c66 c67 c68 c69 c70 c71 c72 c73 c74 c75 c76 c77 c78 c79 c80 c81 c82 c83 c84 c126 c127 c128 c129 c130 c131 c132 c133 c134 c135 c136 c137 c138 c139 c140 c141 c142 c143 c144 c145 c146 c147 c148 c149 c150 c151 c152 c153 c154 c155 u11 u85 u86 u87 u88 u89 u90 u91 u92 u93 u94 u95 u96 u97 u98 u99 u100 u101 u102 u103 u104 u105 u106 u107 u108 u109 u110 u111 u112 u113 u114 u115 u116 u117 u118 u119 u120 u121 u122 u123 u124 u125 Q hx HQ HC hl hob HL4 hst hxl hk1 hk2 rfl
  · exact refOp6 w W B ob lim2 7 st cf v8 v7 ps xs c0 c1 c2 c4 c5 c6 c7 c9 c12 c13 c14 c15 c16 c17 c18 c19 c20 c21 c22 c23 c24 c25 c26 c27 c28 c29 c30 c31 c32 c33 c34 c35 c36 c37 c38 c39 c40 c41 c42 c43 c44 c45 c46 c47 c48 c49 c50 c51 c52 c53 c54 c55 c56 c57 c58 c59 c60 c61 c62 c63 c64 c65 c66 c67 c68 c69 c70 c71 c72 c73 c74 c75 c76 c77 c78 c79 c80 c81 c82 c83 c84 c126 c127 c128 c129 c130 c131 c132 c133 c134 c135 c136 c137 c138 c139 c140 c141 c142 c143 c144 c145 c146 c147 c148 c149 c150 c151 c152 c153 c154 c155 u11 u85 u86 u87 u88 u89 u90 u91 u92 u93 u94 u95 u96 u97 u98 u99 u100 u101 u102 u103 u104 u105 u106 u107 u108 u109 u110 u111 u112 u113 u114 u115 u116 u117 u118 u119 u120 u121 u122 u123 u124 u125 Q hx HQ HC hl hob HL4 hst hxl hk1 hk2 rfl
  · exact refOp7 w W B ob lim2 8 st cf v8 v7 ps xs c0 c1 c2 c4 c5 c6 c7 c9 c12 c13 c14 c15 c16 c17 c18 c19 c20 c21 c22 c23 c24 c25 c26 c27 c28 c29 c30 c31 c32 c33 c34 c35 c36 c37 c38 c39 c40 c41 c42 c43 c44 c45 c46 c47 c48 c49 c50 c51 c52 c53 c54 c55 c56 c57 c58 c59 c60 c61 c62 c63 c64 c65 c66 c67 c68 c69 c70 c71 c72 c73 c74 c75 c76 c77 c78 c79 c80 c81 c82 c83 c84 c126 c127 c128 c129 c130 c131 c132 c133 c134 c135 c136 c137 c138 c139 c140 c141 c142 c143 c144 c145 c146 c147 c148 c149 c150 c151 c152 c153 c154 c155 u11 u85 u86 u87 u88 u89 u90 u91 u92 u93 u94 u95 u96 u97 u98 u99 u100 u101 u102 u103 u104 u105 u106 u107 u108 u109 u110 u111 u112 u113 u114 u115 u116 u117 u118 u119 u120 u121 u122 u123 u124 u125 Q hx HQ HC hl hob HL4 hst hxl hk1 hk2 rfl
  · exact refOp7 w W B ob lim2 9 st cf v8 v7 ps xs c0 c1 c2 c4 c5 c6 c7 c9 c12 c13 c14 c15 c16 c17 c18 c19 c20 c21 c22 c23 c24 c25 c26 c27 c28 c29 c30 c31 c32 c33 c34 c35 c36 c37 c38 c39 c40 c41 c42 c43 c44 c45 c46 c47 c48 c49 c50 c51 c52 c53 c54 c55 c56 c57 c58 c59 c60 c61 c62 c63 c64 c65 c66 c67 c68 c69 c70 c71 c72 c73 c74 c75 c76 c77 c78 c79 c80 c81 c82 c83 c84 c126 c127 c128 c129 c130 c131 c132 c133 c134 c135 c136 c137 c138 c139 c140 c141 c142 c143 c144 c145 c146 c147 c148 c149 c150 c151 c152 c153 c154 c155 u11 u85 u86 u87 u88 u89 u90 u91 u92 u93 u94 u95 u96 u97 u98 u99 u100 u101 u102 u103 u104 u105 u106 u107 u108 u109 u110 u111 u112 u113 u114 u115 u116 u117 u118 u119 u120 u121 u122 u123 u124 u125 Q hx HQ HC hl hob HL4 hst hxl hk1 hk2 rfl
  · exact refOp8 w W B ob lim2 10 st cf v8 v7 ps xs c0 c1 c2 c4 c5 c6 c7 c9 c12 c13 c14 c15 c16 c17 c18 c19 c20 c21 c22 c23 c24 c25 c26 c27 c28 c29 c30 c31 c32 c33 c34 c35 c36 c37 c38 c39 c40 c41 c42 c43 c44 c45 c46 c47 c48 c49 c50 c51 c52 c53 c54 c55 c56 c57 c58 c59 c60 c61 c62 c63 c64 c65 c66 c67 c68 c69 c70 c71 c72 c73 c74 c75 c76 c77 c78 c79 c80 c81 c82 c83 c84 c126 c127 c128 c129 c130 c131 c132 c133 c134 c135 c136 c137 c138 c139 c140 c141 c142 c143 c144 c145 c146 c147 c148 c149 c150 c151 c152 c153 c154 c155 u11 u85 u86 u87 u88 u89 u90 u91 u92 u93 u94 u95 u96 u97 u98 u99 u100 u101 u102 u103 u104 u105 u106 u107 u108 u109 u110 u111 u112 u113 u114 u115 u116 u117 u118 u119 u120 u121 u122 u123 u124 u125 Q hx HQ HC hl hob HL4 hst hxl hk1 hk2 rfl
  · exact refOp9 w W B ob lim2 11 st cf v8 v7 ps xs c0 c1 c2 c4 c5 c6 c7 c9 c12 c13 c14 c15 c16 c17 c18 c19 c20 c21 c22 c23 c24 c25 c26 c27 c28 c29 c30 c31 c32 c33 c34 c35 c36 c37 c38 c39 c40 c41 c42 c43 c44 c45 c46 c47 c48 c49 c50 c51 c52 c53 c54 c55 c56 c57 c58 c59 c60 c61 c62 c63 c64 c65 c66 c67 c68 c69 c70 c71 c72 c73 c74 c75 c76 c77 c78 c79 c80 c81 c82 c83 c84 c126 c127 c128 c129 c130 c131 c132 c133 c134 c135 c136 c137 c138 c139 c140 c141 c142 c143 c144 c145 c146 c147 c148 c149 c150 c151 c152 c153 c154 c155 u11 u85 u86 u87 u88 u89 u90 u91 u92 u93 u94 u95 u96 u97 u98 u99 u100 u101 u102 u103 u104 u105 u106 u107 u108 u109 u110 u111 u112 u113 u114 u115 u116 u117 u118 u119 u120 u121 u122 u123 u124 u125 Q hx HQ HC hl hob HL4 hst hxl hk1 hk2 rfl
  · exact refOp7 w W B ob lim2 12 st cf v8 v7 ps xs c0 c1 c2 c4 c5 c6 c7 c9 c12 c13 c14 c15 c16 c17 c18 c19 c20 c21 c22 c23 c24 c25 c26 c27 c28 c29 c30 c31 c32 c33 c34 c35 c36 c37 c38 c39 c40 c41 c42 c43 c44 c45 c46 c47 c48 c49 c50 c51 c52 c53 c54 c55 c56 c57 c58 c59 c60 c61 c62 c63 c64 c65 c66 c67 c68 c69 c70 c71 c72 c73 c74 c75 c76 c77 c78 c79 c80 c81 c82 c83 c84 c126 c127 c128 c129 c130 c131 c132 c133 c134 c135 c136 c137 c138 c139 c140 c141 c142 c143 c144 c145 c146 c147 c148 c149 c150 c151 c152 c153 c154 c155 u11 u85 u86 u87 u88 u89 u90 u91 u92 u93 u94 u95 u96 u97 u98 u99 u100 u101 u102 u103 u104 u105 u106 u107 u108 u109 u110 u111 u112 u113 u114 u115 u116 u117 u118 u119 u120 u121 u122 u123 u124 u125 Q hx HQ HC hl hob HL4 hst hxl hk1 hk2 rfl
  · exact refOp5 w W B ob lim2 13 st cf v8 v7 ps xs c0 c1 c2 c4 c5 c6 c7 c9 c12 c13 c14 c15 c16 c17 c18 c19 c20 c21 c22 c23 c24 c25 c26 c27 c28 c29 c30 c31 c32 c33 c34 c35 c36 c37 c38 c39 c40 c41 c42 c43 c44 c45 c46 c47 c48 c49 c50 c51 c52 c53 c54 c55 c56 c57 c58 c59 c60 c61 c62 c63 c64 c65 c66 c67 c68 c69 c70 c71 c72 c73 c74 c75 c76 c77 c78 c79 c80 c81 c82 c83 c84 c126 c127 c128 c129 c130 c131 c132 c133 c134 c135 c136 c137 c138 c139 c140 c141 c142 c143 c144 c145 c146 c147 c148 c149 c150 c151 c152 c153 c154 c155 u11 u85 u86 u87 u88 u89 u90 u91 u92 u93 u94 u95 u96 u97 u98 u99 u100 u101 u102 u103 u104 u105 u106 u107 u108 u109 u110 u111 u112 u113 u114 u115 u116 u117 u118 u119 u120 u121 u122 u123 u124 u125 Q hx HQ HC hl hob HL4 hst hxl hk1 hk2 rfl
  · exact refOp4 w W B ob lim2 14 st cf v8 v7 ps xs c0 c1 c2 c4 c5 c6 c7 c9 c12 c13 c14 c15 c16 c17 c18 c19 c20 c21 c22 c23 c24 c25 c26 c27 c28 c29 c30 c31 c32 c33 c34 c35 c36 c37 c38 c39 c40 c41 c42 c43 c44 c45 c46 c47 c48 c49 c50 c51 c52 c53 c54 c55 c56 c57 c58 c59 c60 c61 c62 c63 c64 c65 c66 c67 c68 c69 c70 c71 c72 c73 c74 c75 c76 c77 c78 c79 c80 c81 c82 c83 c84 c126 c127 c128 c129 c130 c131 c132 c133 c134 c135 c136 c137 c138 c139 c140 c141 c142 c143 c144 c145 c146 c147 c148 c149 c150 c151 c152 c153 c154 c155 u11 u85 u86 u87 u88 u89 u90 u91 u92 u93 u94 u95 u96 u97 u98 u99 u100 u101 u102 u103 u104 u105 u106 u107 u108 u109 u110 u111 u112 u113 u114 u115 u116 u117 u118 u119 u120 u121 u122 u123 u124 u125 Q hx HQ HC hl hob HL4 hst hxl hk1 hk2 rfl
  · exact refOp4 w W B ob lim2 15 st cf v8 v7 ps xs c0 c1 c2 c4 c5 c6 c7 c9 c12 c13 c14 c15 c16 c17 c18 c19 c20 c21 c22 c23 c24 c25 c26 c27 c28 c29 c30 c31 c32 c33 c34 c35 c36 c37 c38 c39 c40 c41 c42 c43 c44 c45 c46 c47 c48 c49 c50 c51 c52 c53 c54 c55 c56 c57 c58 c59 c60 c61 c62 c63 c64 c65 c66 c67 c68 c69 c70 c71 c72 c73 c74 c75 c76 c77 c78 c79 c80 c81 c82 c83 c84 c126 c127 c128 c129 c130 c131 c132 c133 c134 c135 c136 c137 c138 c139 c140 c141 c142 c143 c144 c145 c146 c147 c148 c149 c150 c151 c152 c153 c154 c155 u11 u85 u86 u87 u88 u89 u90 u91 u92 u93 u94 u95 u96 u97 u98 u99 u100 u101 u102 u103 u104 u105 u106 u107 u108 u109 u110 u111 u112 u113 u114 u115 u116 u117 u118 u119 u120 u121 u122 u123 u124 u125 Q hx HQ HC hl hob HL4 hst hxl hk1 hk2 rfl
  · exact refOp4 w W B ob lim2 16 st cf v8 v7 ps xs c0 c1 c2 c4 c5 c6 c7 c9 c12 c13 c14 c15 c16 c17 c18 c19 c20 c21 c22 c23 c24 c25 c26 c27 c28 c29 c30 c31 c32 c33 c34 c35 c36 c37 c38 c39 c40 c41 c42 c43 c44 c45 c46 c47 c48 c49 c50 c51 c52 c53 c54 c55 c56 c57 c58 c59 c60 c61 c62 c63 c64 c65 c66 c67 c68 c69 c70 c71 c72 c73 c74 c75 c76 c77 c78 c79 c80 c81 c82 c83 c84 c126 c127 c128 c129 c130 c131 c132 c133 c134 c135 c136 c137 c138 c139 c140 c141 c142 c143 c144 c145 c146 c147 c148 c149 c150 c151 c152 c153 c154 c155 u11 u85 u86 u87 u88 u89 u90 u91 u92 u93 u94 u95 u96 u97 u98 u99 u100 u101 u102 u103 u104 u105 u106 u107 u108 u109 u110 u111 u112 u113 u114 u115 u116 u117 u118 u119 u120 u121 u122 u123 u124 u125 Q hx HQ HC hl hob HL4 hst hxl hk1 hk2 rfl
end Go.Proofs.Ytcicememljlafaa
