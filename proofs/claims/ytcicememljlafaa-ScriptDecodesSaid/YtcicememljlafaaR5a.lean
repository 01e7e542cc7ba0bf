import Derived.Test.YtcicememljlafaaR4c
namespace Go.Proofs.Ytcicememljlafaa
open Go.RowKit

def firstLoop : Code → Option Code
  | .loop c => some c
  | .seq a b => match firstLoop a with
    | some c => some c
    | none => firstLoop b
  | .block _ c => firstLoop c
  | .scope c => firstLoop c
  | .cond _ a b => match firstLoop a with
    | some c => some c
    | none => firstLoop b
  | _ => none
noncomputable def body12a : Code := ((Try.f12.body.bind firstLoop).getD .skip)
noncomputable def body12b : Code := ((firstLoop body12a).getD .skip)
noncomputable def body12c : Code := ((firstLoop body12b).getD .skip)

set_option maxHeartbeats 4000000 in
set_option maxRecDepth 100000 in
theorem fieldsLoop (w W : World) (B ob lim2 nf c : Nat) (A : Option Addr) (kd : Int) (st : ByteArray) (cf : CfgV) (v8 v7 : Value) (ps : List (List OpV)) (xs : List OpV)
    (c0 c1 c2 c3 c6 c9 c11 c12 c13 c14 c15 c16 c17 c18 c19 c20 c21 c22 c23 c24 c25 c26 c27 c28 c29 c30 c31 c32 c33 c34 c35 c36 c37 c38 c39 c40 c41 c42 c43 c44 c45 c46 c47 c48 c49 c50 c51 c52 c53 c54 c55 c56 c57 c58 c59 c60 c61 c62 c63 c64 c65 c66 c67 c68 c69 c70 c71 c72 c73 c74 c75 c76 c115 c116 c117 c118 c119 c120 c121 c122 c123 c124 c125 c126 c127 c128 c129 c130 c131 c132 c133 c134 c135 c136 c137 c138 c139 c140 c141 c142 c143 c144 c145 c146 c147 : Value) (u10 u80 u81 u82 u83 u84 u85 u86 u87 u88 u89 u90 u91 u92 u93 u94 u95 u96 u97 u98 u99 u100 u101 u102 u103 u104 u105 u106 u107 u108 u109 u110 u111 u112 u113 u114 : Value) (Q : Exit → Act → World → Prop)
    (hx : ∀ (u10 u80 u81 u82 u83 u84 u85 u86 u87 u88 u89 u90 u91 u92 u93 u94 u95 u96 u97 u98 u99 u100 u101 u102 u103 u104 u105 u106 u107 u108 u109 u110 u111 u112 u113 u114 : Value) (W' : World), Hid (FSt w W' B (foldF (fieldsOf kd) (op0 kd, st)).2 lim2 cf v8 (.slice none 0 0) ps [] ob (foldF (fieldsOf kd) (op0 kd, st)).1 v7 xs A (fieldsOf kd)) → Q (.exit 4) ⟨List.toArray (c0 :: c1 :: c2 :: c3 :: (.pointer (some ⟨B + 1 + 1 + 1, 0, none⟩)) :: (.func (.func 27) #[] #[.pointer (some ⟨B + 1 + 1 + 1, 0, none⟩)]) :: c6 :: v7 :: (.pointer (some ⟨ob, 0, none⟩)) :: c9 :: u10 :: c11 :: c12 :: c13 :: c14 :: c15 :: c16 :: c17 :: c18 :: c19 :: c20 :: c21 :: c22 :: c23 :: c24 :: c25 :: c26 :: c27 :: c28 :: c29 :: c30 :: c31 :: c32 :: c33 :: c34 :: c35 :: c36 :: c37 :: c38 :: c39 :: c40 :: c41 :: c42 :: c43 :: c44 :: c45 :: c46 :: c47 :: c48 :: c49 :: c50 :: c51 :: c52 :: c53 :: c54 :: c55 :: c56 :: c57 :: c58 :: c59 :: c60 :: c61 :: c62 :: c63 :: c64 :: c65 :: c66 :: c67 :: c68 :: c69 :: c70 :: c71 :: c72 :: c73 :: c74 :: c75 :: c76 :: (.slice A nf c) :: (.int .i64 nf) :: (.int .i64 nf) :: u80 :: u81 :: u82 :: u83 :: u84 :: u85 :: u86 :: u87 :: u88 :: u89 :: u90 :: u91 :: u92 :: u93 :: u94 :: u95 :: u96 :: u97 :: u98 :: u99 :: u100 :: u101 :: u102 :: u103 :: u104 :: u105 :: u106 :: u107 :: u108 :: u109 :: u110 :: u111 :: u112 :: u113 :: u114 :: c115 :: c116 :: c117 :: c118 :: c119 :: c120 :: c121 :: c122 :: c123 :: c124 :: c125 :: c126 :: c127 :: c128 :: c129 :: c130 :: c131 :: c132 :: c133 :: c134 :: c135 :: c136 :: c137 :: c138 :: c139 :: c140 :: c141 :: c142 :: c143 :: c144 :: c145 :: c146 :: c147 :: []), []⟩ W')
    (HF : Hid (FSt w W B st lim2 cf v8 (.slice none 0 0) ps [] ob (op0 kd) v7 xs A (fieldsOf kd))) (hst : st.size ≤ 3000) (HNF : Hid ((fieldsOf kd).length = nf)) :
    Code.wp Try.prog (Code.loop body12c) Q ⟨List.toArray (c0 :: c1 :: c2 :: c3 :: (.pointer (some ⟨B + 1 + 1 + 1, 0, none⟩)) :: (.func (.func 27) #[] #[.pointer (some ⟨B + 1 + 1 + 1, 0, none⟩)]) :: c6 :: v7 :: (.pointer (some ⟨ob, 0, none⟩)) :: c9 :: u10 :: c11 :: c12 :: c13 :: c14 :: c15 :: c16 :: c17 :: c18 :: c19 :: c20 :: c21 :: c22 :: c23 :: c24 :: c25 :: c26 :: c27 :: c28 :: c29 :: c30 :: c31 :: c32 :: c33 :: c34 :: c35 :: c36 :: c37 :: c38 :: c39 :: c40 :: c41 :: c42 :: c43 :: c44 :: c45 :: c46 :: c47 :: c48 :: c49 :: c50 :: c51 :: c52 :: c53 :: c54 :: c55 :: c56 :: c57 :: c58 :: c59 :: c60 :: c61 :: c62 :: c63 :: c64 :: c65 :: c66 :: c67 :: c68 :: c69 :: c70 :: c71 :: c72 :: c73 :: c74 :: c75 :: c76 :: (.slice A nf c) :: (.int .i64 nf) :: (.int .i64 (0 : Int)) :: u80 :: u81 :: u82 :: u83 :: u84 :: u85 :: u86 :: u87 :: u88 :: u89 :: u90 :: u91 :: u92 :: u93 :: u94 :: u95 :: u96 :: u97 :: u98 :: u99 :: u100 :: u101 :: u102 :: u103 :: u104 :: u105 :: u106 :: u107 :: u108 :: u109 :: u110 :: u111 :: u112 :: u113 :: u114 :: c115 :: c116 :: c117 :: c118 :: c119 :: c120 :: c121 :: c122 :: c123 :: c124 :: c125 :: c126 :: c127 :: c128 :: c129 :: c130 :: c131 :: c132 :: c133 :: c134 :: c135 :: c136 :: c137 :: c138 :: c139 :: c140 :: c141 :: c142 :: c143 :: c144 :: c145 :: c146 :: c147 :: []), []⟩ W := by
  have hfl : nf ≤ 3 := by rw [← HNF.out]; exact (fieldsOf_bd kd).1
  have HX := Lib.hid hx
  clear hx
  conv => arg 2; arg 1; whnf
  go_loopw [79] (fun i wr => ∃ q : Nat, q ≤ nf ∧ i = .int .i64 q ∧ Hid (FSt w wr B (foldF ((fieldsOf kd).take q) (op0 kd, st)).2 lim2 cf v8 (.slice none 0 0) ps [] ob (foldF ((fieldsOf kd).take q) (op0 kd, st)).1 v7 xs A (fieldsOf kd))) (fun i _ => nf - (intOf i).toNat)
  case atStart => exact ⟨0, Nat.zero_le _, rfl, HF.out⟩
  case round =>
    obtain ⟨q, hq, rfl, HG⟩ := hrel
    clear HF
    by_cases hql : q < nf
    · have HFT := Lib.hid (foldF_take (fieldsOf kd) q (by rw [HNF.out]; exact hql) (op0 kd, st))
      have hsy := Nat.le_trans (foldF_size ((fieldsOf kd).take q) (op0 kd, st)) hst
      generalize foldF ((fieldsOf kd).take q) (op0 kd, st) = y at *
      have hfb := getD_mem_bd kd q (by rw [HNF.out]; exact hql)
      obtain ⟨bb, oo, rfl, hte, hcs⟩ := HG.out.u8 (by rw [HNF.out]; omega)
      have hcq := hcs q (by rw [HNF.out]; exact hql)
      clear hte hcs HX
      generalize hgf : (fieldsOf kd).getD q 0 = f at *
      have HGF := Lib.hid hgf
      clear hgf
      have hf6 : f = 0 ∨ f = 1 ∨ f = 2 ∨ f = 3 ∨ f = 4 ∨ f = 5 := by omega
      clear hfb
      have n10 := HG.out.rd.fn
      rcases hf6 with rfl | rfl | rfl | rfl | rfl | rfl
      · have HE : Hid (foldF ((fieldsOf kd).take (q + 1)) (op0 kd, st) = ({ y.1 with slot := hd y.2 % 4 }, tl y.2)) := by show _ = _; rw [HFT.out]; rfl
        clear HFT
        go_wp2_with fail
        refine (nextFn 4 B 9 y.2 _ HG.out.rd.str hsy (by omega) (by omega)).mono ?_
        rintro e w11 ⟨rfl, hb, hg⟩
        have HG1 := Lib.hid (HG.out.next hb hg)
        clear n10 hb hg HG
        have b0 := Int.emod_nonneg (hd y.2) (show (4 : Int) ≠ 0 by omega)
        have b1 := Int.emod_lt_of_pos (hd y.2) (show (0 : Int) < 4 by omega)
        generalize hd y.2 % 4 = x at *
        have n11 := HG1.out.op.op.c1
        have f11 := HG1.out.op.elem.frozen 1
        rw [Nat.zero_add] at n11
        have HG2 := Lib.hid (HG1.out.set1 x)
        clear HG1
        go_wp2_with fail
        go_roundw
        case rel => exact ⟨q + 1, by omega, by go_num, by rw [HE.out]; exact HG2⟩
        case measure => simp [intOf]; omega
      · have HE : Hid (foldF ((fieldsOf kd).take (q + 1)) (op0 kd, st) = ({ y.1 with pos := hd y.2 % 64 }, tl y.2)) := by show _ = _; rw [HFT.out]; rfl
        clear HFT
        go_wp2_with fail
        refine (nextFn 64 B 9 y.2 _ HG.out.rd.str hsy (by omega) (by omega)).mono ?_
        rintro e w11 ⟨rfl, hb, hg⟩
        have HG1 := Lib.hid (HG.out.next hb hg)
        clear n10 hb hg HG
        have b0 := Int.emod_nonneg (hd y.2) (show (64 : Int) ≠ 0 by omega)
        have b1 := Int.emod_lt_of_pos (hd y.2) (show (0 : Int) < 64 by omega)
        generalize hd y.2 % 64 = x at *
        have n11 := HG1.out.op.op.c2
        have f11 := HG1.out.op.elem.frozen 2
        rw [Nat.zero_add] at n11
        have HG2 := Lib.hid (HG1.out.set2 x)
        clear HG1
        go_wp2_with fail
        go_roundw
        case rel => exact ⟨q + 1, by omega, by go_num, by rw [HE.out]; exact HG2⟩
        case measure => simp [intOf]; omega
      · have HE : Hid (foldF ((fieldsOf kd).take (q + 1)) (op0 kd, st) = ({ y.1 with num := hd y.2 % 32 }, tl y.2)) := by show _ = _; rw [HFT.out]; rfl
        clear HFT
        go_wp2_with fail
        refine (nextFn 32 B 9 y.2 _ HG.out.rd.str hsy (by omega) (by omega)).mono ?_
        rintro e w11 ⟨rfl, hb, hg⟩
        have HG1 := Lib.hid (HG.out.next hb hg)
        clear n10 hb hg HG
        have b0 := Int.emod_nonneg (hd y.2) (show (32 : Int) ≠ 0 by omega)
        have b1 := Int.emod_lt_of_pos (hd y.2) (show (0 : Int) < 32 by omega)
        generalize hd y.2 % 32 = x at *
        have n11 := HG1.out.op.op.c3
        have f11 := HG1.out.op.elem.frozen 3
        rw [Nat.zero_add] at n11
        have HG2 := Lib.hid (HG1.out.set3 x)
        clear HG1
        go_wp2_with fail
        go_roundw
        case rel => exact ⟨q + 1, by omega, by go_num, by rw [HE.out]; exact HG2⟩
        case measure => simp [intOf]; omega
      · have HE : Hid (foldF ((fieldsOf kd).take (q + 1)) (op0 kd, st) = ({ y.1 with id := hd y.2 % 4 }, tl y.2)) := by show _ = _; rw [HFT.out]; rfl
        clear HFT
        go_wp2_with fail
        refine (nextFn 4 B 9 y.2 _ HG.out.rd.str hsy (by omega) (by omega)).mono ?_
        rintro e w11 ⟨rfl, hb, hg⟩
        have HG1 := Lib.hid (HG.out.next hb hg)
        clear n10 hb hg HG
        have b0 := Int.emod_nonneg (hd y.2) (show (4 : Int) ≠ 0 by omega)
        have b1 := Int.emod_lt_of_pos (hd y.2) (show (0 : Int) < 4 by omega)
        generalize hd y.2 % 4 = x at *
        have n11 := HG1.out.op.op.c4
        have f11 := HG1.out.op.elem.frozen 4
        rw [Nat.zero_add] at n11
        have HG2 := Lib.hid (HG1.out.set4 x)
        clear HG1
        go_wp2_with fail
        go_roundw
        case rel => exact ⟨q + 1, by omega, by go_num, by rw [HE.out]; exact HG2⟩
        case measure => simp [intOf]; omega
      · have HE : Hid (foldF ((fieldsOf kd).take (q + 1)) (op0 kd, st) = ({ y.1 with grav := hd y.2 % 2 }, tl y.2)) := by show _ = _; rw [HFT.out]; rfl
        clear HFT
        go_wp2_with fail
        refine (nextFn 2 B 9 y.2 _ HG.out.rd.str hsy (by omega) (by omega)).mono ?_
        rintro e w11 ⟨rfl, hb, hg⟩
        have HG1 := Lib.hid (HG.out.next hb hg)
        clear n10 hb hg HG
        have b0 := Int.emod_nonneg (hd y.2) (show (2 : Int) ≠ 0 by omega)
        have b1 := Int.emod_lt_of_pos (hd y.2) (show (0 : Int) < 2 by omega)
        generalize hd y.2 % 2 = x at *
        have n11 := HG1.out.op.op.c5
        have f11 := HG1.out.op.elem.frozen 5
        rw [Nat.zero_add] at n11
        have HG2 := Lib.hid (HG1.out.set5 x)
        clear HG1
        go_wp2_with fail
        go_roundw
        case rel => exact ⟨q + 1, by omega, by go_num, by rw [HE.out]; exact HG2⟩
        case measure => simp [intOf]; omega
      · have HE : Hid (foldF ((fieldsOf kd).take (q + 1)) (op0 kd, st) = ({ y.1 with text := letT (tl y.2) (hd y.2 % 16).toNat }, tlN (tl y.2) (hd y.2 % 16).toNat)) := by show _ = _; rw [HFT.out]; rfl
        clear HFT
        go_wp2_with fail
        refine (wordFn 16 B (B + 1 + 1 + 1) 9 y.2 _ HG.out.rd.str HG.out.rd.fn (by omega) hsy (by omega) (by omega)).mono ?_
        rintro e w11 ⟨rfl, hb, hg⟩
        have HG1 := Lib.hid (HG.out.next hb hg)
        clear n10 hb hg HG
        generalize letT (tl y.2) (hd y.2 % 16).toNat = x at *
        have n11 := HG1.out.op.op.c6
        have f11 := HG1.out.op.elem.frozen 6
        rw [Nat.zero_add] at n11
        have HG2 := Lib.hid (HG1.out.set6 x)
        clear HG1
        go_wp2_with fail
        go_roundw
        case rel => exact ⟨q + 1, by omega, by go_num, by rw [HE.out]; exact HG2⟩
        case measure => simp [intOf]; omega
    · obtain rfl : q = nf := by omega
      go_wp2_with fail
      rw [List.take_of_length_le (by rw [HNF.out]; exact Nat.le_refl _)] at HG
      exact HX.out _ _ _ _ _ _ _ _ _ _ _ _ _ _ _ _ _ _ _ _ _ _ _ _ _ _ _ _ _ _ _ _ _ _ _ _ _ HG
end Go.Proofs.Ytcicememljlafaa
