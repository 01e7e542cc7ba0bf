import Derived.Test.YtcicememljlafaaR5a
namespace Go.Proofs.Ytcicememljlafaa
open Go.RowKit


theorem ops_pushed {w0 W w1 : World} {B lim : Nat} {s : ByteArray} {cf : CfgV} {v8 v9 v7 v1 : Value} {ps : List (List OpV)} {ks : List Int} {xs : List OpV} {o : OpV} {O : Obj}
    (h : RdSt w0 W B s lim cf v8 v9 ps ks) (hc : CurRow W lim v7 xs) (hl : lim ≤ W.heap.size) (h4 : B + 1 + 1 + 1 + 1 ≤ lim)
    (hown : w1.ownsRow lim 44 7 v1 (xs.length + 1) ((xs.flatMap opCells) ++ opCells o)) (hg : (W.alloc O).grownBy w1 v7.ownBlock) :
    RdSt w0 w1 B s lim cf v8 v9 ps ks ∧ CurRow w1 lim v1 (xs ++ [o]) ∧ lim ≤ w1.heap.size := by
  have hca : CurRow (W.alloc O) lim v7 xs := World.ownsRow.alloc hc _
  have hs := hg.size
  refine ⟨(h.alloc O).other (Mild.grown hg fun q e => ⟨44, own_elem hca e, .inr ⟨rfl, (World.ownsRow.lt hca q e).1⟩⟩) fun q hq => hg.block q (by simp; omega) (fun e => ?_), ?_, by simp at hs; omega⟩
  · have := (World.ownsRow.lt hca q e.symm).1
    omega
  · show w1.ownsRow lim 44 7 v1 (xs ++ [o]).length ((xs ++ [o]).flatMap opCells)
    rw [List.length_append, List.flatMap_append, show [o].flatMap opCells = opCells o from by simp]
    exact hown

set_option maxHeartbeats 4000000 in
set_option maxRecDepth 100000 in
theorem opsLoop (w W : World) (B lim2 m : Nat) (sp : ByteArray) (cf : CfgV) (v8 : Value) (ps : List (List OpV))
    (c0 c1 c2 c3 c6 c9 c11 c12 c13 c14 c15 c16 c17 c18 c19 c20 c21 c22 c23 c24 c25 c26 c27 c28 c29 c30 c31 c32 c33 c34 c35 c36 c37 c38 c39 c40 c41 c42 c43 c44 c45 c46 c47 c48 c49 c50 c51 c52 c53 c54 c55 c56 c57 c58 c59 c60 c61 c62 c63 c64 c65 c66 c120 c121 c122 c123 c124 c125 c126 c127 c128 c129 c130 c131 c132 c133 c134 c135 c136 c137 c138 c139 c140 c141 c142 c143 c144 c145 c146 c147 : Value) (u8 u10 u69 u70 u71 u72 u73 u74 u75 u76 u77 u78 u79 u80 u81 u82 u83 u84 u85 u86 u87 u88 u89 u90 u91 u92 u93 u94 u95 u96 u97 u98 u99 u100 u101 u102 u103 u104 u105 u106 u107 u108 u109 u110 u111 u112 u113 u114 u115 u116 u117 u118 u119 : Value) (Q : Exit → Act → World → Prop)
    (hx : ∀ (v7 u8 u10 u69 u70 u71 u72 u73 u74 u75 u76 u77 u78 u79 u80 u81 u82 u83 u84 u85 u86 u87 u88 u89 u90 u91 u92 u93 u94 u95 u96 u97 u98 u99 u100 u101 u102 u103 u104 u105 u106 u107 u108 u109 u110 u111 u112 u113 u114 u115 u116 u117 u118 u119 : Value) (W' : World), Hid (RdSt w W' B (opsN sp m).2 lim2 cf v8 (.slice none 0 0) ps [] ∧ CurRow W' lim2 v7 (opsN sp m).1 ∧ lim2 ≤ W'.heap.size) → Q (.exit 2) ⟨List.toArray (c0 :: c1 :: c2 :: c3 :: (.pointer (some ⟨B + 1 + 1 + 1, 0, none⟩)) :: (.func (.func 27) #[] #[.pointer (some ⟨B + 1 + 1 + 1, 0, none⟩)]) :: c6 :: v7 :: u8 :: c9 :: u10 :: c11 :: c12 :: c13 :: c14 :: c15 :: c16 :: c17 :: c18 :: c19 :: c20 :: c21 :: c22 :: c23 :: c24 :: c25 :: c26 :: c27 :: c28 :: c29 :: c30 :: c31 :: c32 :: c33 :: c34 :: c35 :: c36 :: c37 :: c38 :: c39 :: c40 :: c41 :: c42 :: c43 :: c44 :: c45 :: c46 :: c47 :: c48 :: c49 :: c50 :: c51 :: c52 :: c53 :: c54 :: c55 :: c56 :: c57 :: c58 :: c59 :: c60 :: c61 :: c62 :: c63 :: c64 :: c65 :: c66 :: (.int .i64 m) :: (.int .i64 m) :: u69 :: u70 :: u71 :: u72 :: u73 :: u74 :: u75 :: u76 :: u77 :: u78 :: u79 :: u80 :: u81 :: u82 :: u83 :: u84 :: u85 :: u86 :: u87 :: u88 :: u89 :: u90 :: u91 :: u92 :: u93 :: u94 :: u95 :: u96 :: u97 :: u98 :: u99 :: u100 :: u101 :: u102 :: u103 :: u104 :: u105 :: u106 :: u107 :: u108 :: u109 :: u110 :: u111 :: u112 :: u113 :: u114 :: u115 :: u116 :: u117 :: u118 :: u119 :: c120 :: c121 :: c122 :: c123 :: c124 :: c125 :: c126 :: c127 :: c128 :: c129 :: c130 :: c131 :: c132 :: c133 :: c134 :: c135 :: c136 :: c137 :: c138 :: c139 :: c140 :: c141 :: c142 :: c143 :: c144 :: c145 :: c146 :: c147 :: []), []⟩ W')
    (HP : Hid (RdSt w W B sp lim2 cf v8 (.slice none 0 0) ps [])) (hl : lim2 ≤ W.heap.size) (HL4 : Hid (B + 1 + 1 + 1 + 1 ≤ lim2)) (hst : sp.size ≤ 3000) (hm8 : m < 8) :
    Code.wp Try.prog (Code.loop body12b) Q ⟨List.toArray (c0 :: c1 :: c2 :: c3 :: (.pointer (some ⟨B + 1 + 1 + 1, 0, none⟩)) :: (.func (.func 27) #[] #[.pointer (some ⟨B + 1 + 1 + 1, 0, none⟩)]) :: c6 :: (.slice none 0 0) :: u8 :: c9 :: u10 :: c11 :: c12 :: c13 :: c14 :: c15 :: c16 :: c17 :: c18 :: c19 :: c20 :: c21 :: c22 :: c23 :: c24 :: c25 :: c26 :: c27 :: c28 :: c29 :: c30 :: c31 :: c32 :: c33 :: c34 :: c35 :: c36 :: c37 :: c38 :: c39 :: c40 :: c41 :: c42 :: c43 :: c44 :: c45 :: c46 :: c47 :: c48 :: c49 :: c50 :: c51 :: c52 :: c53 :: c54 :: c55 :: c56 :: c57 :: c58 :: c59 :: c60 :: c61 :: c62 :: c63 :: c64 :: c65 :: c66 :: (.int .i64 m) :: (.int .i64 (0 : Int)) :: u69 :: u70 :: u71 :: u72 :: u73 :: u74 :: u75 :: u76 :: u77 :: u78 :: u79 :: u80 :: u81 :: u82 :: u83 :: u84 :: u85 :: u86 :: u87 :: u88 :: u89 :: u90 :: u91 :: u92 :: u93 :: u94 :: u95 :: u96 :: u97 :: u98 :: u99 :: u100 :: u101 :: u102 :: u103 :: u104 :: u105 :: u106 :: u107 :: u108 :: u109 :: u110 :: u111 :: u112 :: u113 :: u114 :: u115 :: u116 :: u117 :: u118 :: u119 :: c120 :: c121 :: c122 :: c123 :: c124 :: c125 :: c126 :: c127 :: c128 :: c129 :: c130 :: c131 :: c132 :: c133 :: c134 :: c135 :: c136 :: c137 :: c138 :: c139 :: c140 :: c141 :: c142 :: c143 :: c144 :: c145 :: c146 :: c147 :: []), []⟩ W := by
  have HX := Lib.hid hx
  clear hx
  conv => arg 2; arg 1; whnf
  go_loopw [7, 68] (fun v i wr => ∃ (j : Nat) (v7 : Value), j ≤ m ∧ v = v7 ∧ i = .int .i64 j ∧ Hid (RdSt w wr B (opsN sp j).2 lim2 cf v8 (.slice none 0 0) ps []) ∧ Hid (CurRow wr lim2 v7 (opsN sp j).1) ∧ lim2 ≤ wr.heap.size) (fun _ i _ => m - (intOf i).toNat)
  case atStart => exact ⟨0, _, Nat.zero_le _, rfl, rfl, HP.out, World.ownsRow_nil _ _ _ _, hl⟩
  case round =>
    obtain ⟨j, v7, hj, rfl, rfl, HQ, HC, hlw⟩ := hrel
    by_cases hjl : j < m
    · have hsj := Nat.le_trans (opsN_size sp j) hst
      clear HP HX hl
      have n9 := HQ.out.fn
      go_wp2_with fail
      refine (nextFn 16 B 9 (opsN sp j).2 _ HQ.out.str hsj (by omega) (by omega)).mono ?_
      rintro e w9 ⟨rfl, hb, hg⟩
      have b0 := Int.emod_nonneg (hd (opsN sp j).2) (show (16 : Int) ≠ 0 by omega)
      have b1 := Int.emod_lt_of_pos (hd (opsN sp j).2) (show (0 : Int) < 16 by omega)
      have HQ9 := Lib.hid (HQ.out.next hb hg)
      have HC9 := Lib.hid (HC.out.kept hg (fun q e hv => by injection e with e; subst e; exact (own_elem HC.out hv).ne HQ.out.str.elem (by decide) rfl))
      have hgs := hg.size
      clear n9 hb hg HQ HC
      have HRO : Hid (opsN sp (j + 1) = ((opsN sp j).1 ++ [(foldF (fieldsOf (1 + hd (opsN sp j).2 % 16)) (op0 (1 + hd (opsN sp j).2 % 16), tl (opsN sp j).2)).1], (foldF (fieldsOf (1 + hd (opsN sp j).2 % 16)) (op0 (1 + hd (opsN sp j).2 % 16), tl (opsN sp j).2)).2)) := by show _ = _; rfl
      have hstt : (tl (opsN sp j).2).size ≤ 3000 := by rw [tl_size]; omega
      have HLN := Lib.hid (opsN_len sp j)
      generalize hd (opsN sp j).2 % 16 = q9 at *
      generalize tl (opsN sp j).2 = st at *
      generalize (opsN sp j).1 = xs at *
      have hlw9 : lim2 ≤ w9.heap.size := Nat.le_trans hlw hgs
      clear hsj hgs hlw
      go_wp2_with fail
      refine (fieldsFn (1 + q9) _ (by omega) (by omega)).mono ?_
      rintro e w10 ⟨A, c, rfl, hu, hg⟩
      have HF := Lib.hid (fst_init (k := 1 + q9) HQ9.out HC9.out hlw9 HL4.out hu hg)
      clear HQ9 HC9 hu hg hlw9
      generalize 1 + q9 = kd at *
      have hfl := (fieldsOf_bd kd).1
      generalize hnf : (fieldsOf kd).length = nf at *
      have HNF := Lib.hid hnf
      clear hnf b0 b1
      generalize w9.heap.size = ob at *
      go_wp2_with fail
      refine fieldsLoop w _ B ob lim2 nf c A kd st cf v8 u7 ps xs _ _ _ _ _ _ _ _ _ _ _ _ _ _ _ _ _ _ _ _ _ _ _ _ _ _ _ _ _ _ _ _ _ _ _ _ _ _ _ _ _ _ _ _ _ _ _ _ _ _ _ _ _ _ _ _ _ _ _ _ _ _ _ _ _ _ _ _ _ _ _ _ _ _ _ _ _ _ _ _ _ _ _ _ _ _ _ _ _ _ _ _ _ _ _ _ _ _ _ _ _ _ _ _ _  _ _ _ _ _ _ _ _ _ _ _ _ _ _ _ _ _ _ _ _ _ _ _ _ _ _ _ _ _ _ _ _ _ _ _ _  _ ?_ HF hstt HNF
      clear HF
      rintro _ _ _ _ _ _ _ _ _ _ _ _ _ _ _ _ _ _ _ _ _ _ _ _ _ _ _ _ _ _ _ _ _ _ _ _  w11 HF
      generalize foldF (fieldsOf kd) (op0 kd, st) = y at *
      have n0 := HF.out.op.op.c0
      have n1 := HF.out.op.op.c1
      have n2 := HF.out.op.op.c2
      have n3 := HF.out.op.op.c3
      have n4 := HF.out.op.op.c4
      have n5 := HF.out.op.op.c5
      have n6 := HF.out.op.op.c6
      rw [Nat.zero_add] at n1 n2 n3 n4 n5 n6
      have HC := Lib.hid HF.out.cur
      have HRD := Lib.hid HF.out.rd
      have hl11 : lim2 ≤ w11.heap.size := by have h1 := HF.out.obl; have h2 := HF.out.op.elem.lt; omega
      obtain ⟨i0, hi, hz0, hz1, hz2⟩ := info_parts op_info
      have hxl : xs.length < 8 := by have := HLN.out; omega
      clear HF
      go_wp2_with (at_builtin; refine wpList_append_own _ rfl _ _ 41 rfl lim2 44 i0 (.agg #[.int .u8 0, .int .i64 0, .int .i64 0, .int .i64 0, .int .u32 0, .int .u8 0, .string ⟨#[]⟩]) 7 56 Try.underlying41 hi hz0 hz1 hz2 rfl (by decide) _ _ _ rfl (HC.out.alloc _) ⟨w11.heap.size, 0, none⟩ 1 1 (opCells y.1) rfl rfl (news_op _ _ _) (one_op _) ?c3 ?c4 ?c5 ?_)
      case c3 => unfold maxLen; omega
      case c4 => omega
      case c5 => simp; omega
      intro v' w12 hown hgrow _
      have HA := Lib.hid (ops_pushed HRD.out HC.out hl11 HL4.out hown hgrow)
      clear hown hgrow HRD HC
      go_wp2_with fail
      go_roundw
      case rel => exact ⟨j + 1, _, by omega, rfl, by go_num, by rw [HRO.out]; exact HA.out.1, by rw [HRO.out]; exact HA.out.2.1, HA.out.2.2⟩
      case measure => simp [intOf]; omega
    · obtain rfl : j = m := by omega
      go_wp2_with fail
      exact HX.out _ _ _ _ _ _ _ _ _ _ _ _ _ _ _ _ _ _ _ _ _ _ _ _ _ _ _ _ _ _ _ _ _ _ _ _ _ _ _ _ _ _ _ _ _ _ _ _ _ _ _ _ _ _ _ ⟨HQ.out, HC.out, hlw⟩
end Go.Proofs.Ytcicememljlafaa
