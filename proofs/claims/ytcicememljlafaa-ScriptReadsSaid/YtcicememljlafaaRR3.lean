import Derived.Test.YtcicememljlafaaRR2
import Derived.Deep.CutBlock
namespace Go.Proofs.Ytcicememljlafaa
open Go.RowKit


def regIn : Code → Code
  | .seq _ (.seq (.block _ (.seq r _)) _) => r
  | _ => .skip
noncomputable def reg13o : Code := regIn body13b
set_option maxHeartbeats 4000000 in
set_option maxRecDepth 100000 in
theorem refOpN (w W : World) (B lim2 : Nat) (s0 : ByteArray) (cf : CfgV) (v8 v7 : Value) (ps : List (List OpV)) (xs : List OpV)
    (c0 c1 c2 c4 c5 c6 c7 c9 c12 c13 c14 c15 c16 c17 c18 c19 c20 c21 c22 c23 c24 c25 c26 c27 c28 c29 c30 c31 c32 c33 c34 c35 c36 c37 c38 c39 c40 c41 c42 c43 c44 c45 c46 c47 c48 c49 c50 c51 c52 c53 c54 c55 c56 c57 c58 c59 c60 c61 c62 c63 c64 c65 c66 c67 c68 c69 c70 c71 c72 c73 c74 c75 c76 c77 c78 c79 c126 c127 c128 c129 c130 c131 c132 c133 c134 c135 c136 c137 c138 c139 c140 c141 c142 c143 c144 c145 c146 c147 c148 c149 c150 c151 c152 c153 c154 c155 : Value) (u10 u11 u80 u81 u82 u83 u84 u85 u86 u87 u88 u89 u90 u91 u92 u93 u94 u95 u96 u97 u98 u99 u100 u101 u102 u103 u104 u105 u106 u107 u108 u109 u110 u111 u112 u113 u114 u115 u116 u117 u118 u119 u120 u121 u122 u123 u124 u125 : Value) (Q : Exit → Act → World → Prop)
    (hx : ∀ (v' u10 u11 u80 u81 u82 u83 u84 u85 u86 u87 u88 u89 u90 u91 u92 u93 u94 u95 u96 u97 u98 u99 u100 u101 u102 u103 u104 u105 u106 u107 u108 u109 u110 u111 u112 u113 u114 u115 u116 u117 u118 u119 u120 u121 u122 u123 u124 u125 : Value) (W' : World), Hid (RrSt w W' B (foldF (fieldsOf (1 + hd s0 % 16)) (op0 (1 + hd s0 % 16), tl s0)).2 lim2 cf v8 (.slice none 0 0) ps [] ∧ CurRow W' lim2 v' (xs ++ [(foldF (fieldsOf (1 + hd s0 % 16)) (op0 (1 + hd s0 % 16), tl s0)).1]) ∧ lim2 ≤ W'.heap.size) → Q .normal ⟨List.toArray (c0 :: c1 :: c2 :: (.pointer (some ⟨B + 1, 0, none⟩)) :: c4 :: c5 :: c6 :: c7 :: v' :: c9 :: u10 :: u11 :: c12 :: c13 :: c14 :: c15 :: c16 :: c17 :: c18 :: c19 :: c20 :: c21 :: c22 :: c23 :: c24 :: c25 :: c26 :: c27 :: c28 :: c29 :: c30 :: c31 :: c32 :: c33 :: c34 :: c35 :: c36 :: c37 :: c38 :: c39 :: c40 :: c41 :: c42 :: c43 :: c44 :: c45 :: c46 :: c47 :: c48 :: c49 :: c50 :: c51 :: c52 :: c53 :: c54 :: c55 :: c56 :: c57 :: c58 :: c59 :: c60 :: c61 :: c62 :: c63 :: c64 :: c65 :: c66 :: c67 :: c68 :: c69 :: c70 :: c71 :: c72 :: c73 :: c74 :: c75 :: c76 :: c77 :: c78 :: c79 :: u80 :: u81 :: u82 :: u83 :: u84 :: u85 :: u86 :: u87 :: u88 :: u89 :: u90 :: u91 :: u92 :: u93 :: u94 :: u95 :: u96 :: u97 :: u98 :: u99 :: u100 :: u101 :: u102 :: u103 :: u104 :: u105 :: u106 :: u107 :: u108 :: u109 :: u110 :: u111 :: u112 :: u113 :: u114 :: u115 :: u116 :: u117 :: u118 :: u119 :: u120 :: u121 :: u122 :: u123 :: u124 :: u125 :: c126 :: c127 :: c128 :: c129 :: c130 :: c131 :: c132 :: c133 :: c134 :: c135 :: c136 :: c137 :: c138 :: c139 :: c140 :: c141 :: c142 :: c143 :: c144 :: c145 :: c146 :: c147 :: c148 :: c149 :: c150 :: c151 :: c152 :: c153 :: c154 :: c155 :: []), []⟩ W')
    (HQ : Hid (RrSt w W B s0 lim2 cf v8 (.slice none 0 0) ps [])) (HC : Hid (CurRow W lim2 v7 xs)) (hl : lim2 ≤ W.heap.size) (HL4 : Hid (B + 1 + 1 + 1 ≤ lim2)) (hst : s0.size ≤ 3000) (hxl : xs.length < 8) :
    Code.wp Try.prog (.seq reg13o body13o) Q ⟨List.toArray (c0 :: c1 :: c2 :: (.pointer (some ⟨B + 1, 0, none⟩)) :: c4 :: c5 :: c6 :: c7 :: v7 :: c9 :: u10 :: u11 :: c12 :: c13 :: c14 :: c15 :: c16 :: c17 :: c18 :: c19 :: c20 :: c21 :: c22 :: c23 :: c24 :: c25 :: c26 :: c27 :: c28 :: c29 :: c30 :: c31 :: c32 :: c33 :: c34 :: c35 :: c36 :: c37 :: c38 :: c39 :: c40 :: c41 :: c42 :: c43 :: c44 :: c45 :: c46 :: c47 :: c48 :: c49 :: c50 :: c51 :: c52 :: c53 :: c54 :: c55 :: c56 :: c57 :: c58 :: c59 :: c60 :: c61 :: c62 :: c63 :: c64 :: c65 :: c66 :: c67 :: c68 :: c69 :: c70 :: c71 :: c72 :: c73 :: c74 :: c75 :: c76 :: c77 :: c78 :: c79 :: u80 :: u81 :: u82 :: u83 :: u84 :: u85 :: u86 :: u87 :: u88 :: u89 :: u90 :: u91 :: u92 :: u93 :: u94 :: u95 :: u96 :: u97 :: u98 :: u99 :: u100 :: u101 :: u102 :: u103 :: u104 :: u105 :: u106 :: u107 :: u108 :: u109 :: u110 :: u111 :: u112 :: u113 :: u114 :: u115 :: u116 :: u117 :: u118 :: u119 :: u120 :: u121 :: u122 :: u123 :: u124 :: u125 :: c126 :: c127 :: c128 :: c129 :: c130 :: c131 :: c132 :: c133 :: c134 :: c135 :: c136 :: c137 :: c138 :: c139 :: c140 :: c141 :: c142 :: c143 :: c144 :: c145 :: c146 :: c147 :: c148 :: c149 :: c150 :: c151 :: c152 :: c153 :: c154 :: c155 :: []), []⟩ W := by
  have HX := Lib.hid hx
  clear hx
  conv => arg 2; arg 1; whnf
  go_wp2_with fail
  refine (refNext 16 (B + 1) 56 s0 _ HQ.out.str hst (by omega) (by omega)).mono ?_
  rintro e w9 ⟨rfl, hb, hg⟩
  have b0 := Int.emod_nonneg (hd s0) (show (16 : Int) ≠ 0 by omega)
  have b1 := Int.emod_lt_of_pos (hd s0) (show (0 : Int) < 16 by omega)
  have HQ9 := Lib.hid (HQ.out.next hb hg)
  have HC9 := Lib.hid (HC.out.kept hg (fun q e hv => by injection e with e; subst e; exact (own_elem HC.out hv).ne HQ.out.str.elem (by decide) rfl))
  have hgs := hg.size
  clear hb hg HQ HC
  have hstt : (tl s0).size ≤ 3000 := by rw [tl_size]; omega
  generalize hd s0 % 16 = q9 at *
  generalize tl s0 = st at *
  have HL9 : Hid (lim2 ≤ w9.heap.size) := Nat.le_trans hl hgs
  clear hgs hl
  go_wp2_with fail
  generalize hkd : 1 + q9 = kd at *
  have hk1 : 1 ≤ kd := by omega
  have hk2 : kd ≤ 16 := by omega
  clear hkd b0 b1
  refine refOp w w9 B w9.heap.size lim2 kd st cf v8 v7 ps xs _ _ _ _ _ _ _ _ _ _ _ _ _ _ _ _ _ _ _ _ _ _ _ _ _ _ _ _ _ _ _ _ _ _ _ _ _ _ _ _ _ _ _ _ _ _ _ _ _ _ _ _ _ _ _ _ _ _ _ _ _ _ _ _ _ _ _ _ _ _ _ _ _ _ _ _ _ _ _ _ _ _ _ _ _ _ _ _ _ _ _ _ _ _ _ _ _ _ _ _ _ _ _ _ _ _ _ _ _ _ _  _ _ _ _ _ _ _ _ _ _ _ _ _ _ _ _ _ _ _ _ _ _ _ _ _ _ _ _ _ _ _ _ _ _ _ _ _ _ _ _ _ _  _ ?_ HQ9 HC9 HL9 rfl HL4 hstt hxl hk1 hk2
  rintro v' _ _ _ _ _ _ _ _ _ _ _ _ _ _ _ _ _ _ _ _ _ _ _ _ _ _ _ _ _ _ _ _ _ _ _ _ _ _ _ _ _ _  w20 HA
  exact HX.out _ _ _ _ _ _ _ _ _ _ _ _ _ _ _ _ _ _ _ _ _ _ _ _ _ _ _ _ _ _ _ _ _ _ _ _ _ _ _ _ _ _ _ _ _ _ _ _ _  _ HA

set_option maxHeartbeats 4000000 in
set_option maxRecDepth 100000 in
theorem opsLoopR (w W : World) (B lim2 m : Nat) (sp : ByteArray) (cf : CfgV) (v8 : Value) (ps : List (List OpV))
    (c0 c1 c2 c4 c5 c6 c12 c13 c14 c15 c16 c17 c18 c19 c20 c21 c22 c23 c24 c25 c26 c27 c28 c29 c30 c31 c32 c33 c34 c35 c36 c37 c38 c39 c40 c41 c42 c43 c44 c45 c46 c47 c48 c49 c50 c51 c52 c53 c54 c55 c56 c57 c58 c59 c60 c61 c62 c63 c64 c65 c66 c67 c68 c69 c70 c71 c72 c73 c74 c126 c127 c128 c129 c130 c131 c132 c133 c134 c135 c136 c137 c138 c139 c140 c141 c142 c143 c144 c145 c146 c147 c148 c149 c150 c151 c152 c153 c154 c155 : Value) (u10 u11 u75 u76 u77 u78 u79 u80 u81 u82 u83 u84 u85 u86 u87 u88 u89 u90 u91 u92 u93 u94 u95 u96 u97 u98 u99 u100 u101 u102 u103 u104 u105 u106 u107 u108 u109 u110 u111 u112 u113 u114 u115 u116 u117 u118 u119 u120 u121 u122 u123 u124 u125 : Value) (Q : Exit → Act → World → Prop)
    (hx : ∀ (v7 u10 u11 u75 u76 u77 u78 u79 u80 u81 u82 u83 u84 u85 u86 u87 u88 u89 u90 u91 u92 u93 u94 u95 u96 u97 u98 u99 u100 u101 u102 u103 u104 u105 u106 u107 u108 u109 u110 u111 u112 u113 u114 u115 u116 u117 u118 u119 u120 u121 u122 u123 u124 u125 : Value) (W' : World), Hid (RrSt w W' B (opsN sp m).2 lim2 cf v8 (.slice none 0 0) ps [] ∧ CurRow W' lim2 v7 (opsN sp m).1 ∧ lim2 ≤ W'.heap.size) → Q (.exit 2) ⟨List.toArray (c0 :: c1 :: c2 :: (.pointer (some ⟨B + 1, 0, none⟩)) :: c4 :: c5 :: c6 :: (.int .i64 m) :: v7 :: (.int .i64 m) :: u10 :: u11 :: c12 :: c13 :: c14 :: c15 :: c16 :: c17 :: c18 :: c19 :: c20 :: c21 :: c22 :: c23 :: c24 :: c25 :: c26 :: c27 :: c28 :: c29 :: c30 :: c31 :: c32 :: c33 :: c34 :: c35 :: c36 :: c37 :: c38 :: c39 :: c40 :: c41 :: c42 :: c43 :: c44 :: c45 :: c46 :: c47 :: c48 :: c49 :: c50 :: c51 :: c52 :: c53 :: c54 :: c55 :: c56 :: c57 :: c58 :: c59 :: c60 :: c61 :: c62 :: c63 :: c64 :: c65 :: c66 :: c67 :: c68 :: c69 :: c70 :: c71 :: c72 :: c73 :: c74 :: u75 :: u76 :: u77 :: u78 :: u79 :: u80 :: u81 :: u82 :: u83 :: u84 :: u85 :: u86 :: u87 :: u88 :: u89 :: u90 :: u91 :: u92 :: u93 :: u94 :: u95 :: u96 :: u97 :: u98 :: u99 :: u100 :: u101 :: u102 :: u103 :: u104 :: u105 :: u106 :: u107 :: u108 :: u109 :: u110 :: u111 :: u112 :: u113 :: u114 :: u115 :: u116 :: u117 :: u118 :: u119 :: u120 :: u121 :: u122 :: u123 :: u124 :: u125 :: c126 :: c127 :: c128 :: c129 :: c130 :: c131 :: c132 :: c133 :: c134 :: c135 :: c136 :: c137 :: c138 :: c139 :: c140 :: c141 :: c142 :: c143 :: c144 :: c145 :: c146 :: c147 :: c148 :: c149 :: c150 :: c151 :: c152 :: c153 :: c154 :: c155 :: []), []⟩ W')
    (HP : Hid (RrSt w W B sp lim2 cf v8 (.slice none 0 0) ps [])) (hl : lim2 ≤ W.heap.size) (HL4 : Hid (B + 1 + 1 + 1 ≤ lim2)) (hst : sp.size ≤ 3000) (hm8 : m < 8) :
    Code.wp Try.prog (Code.loop body13b) Q ⟨List.toArray (c0 :: c1 :: c2 :: (.pointer (some ⟨B + 1, 0, none⟩)) :: c4 :: c5 :: c6 :: (.int .i64 m) :: (.slice none 0 0) :: (.int .i64 (0 : Int)) :: u10 :: u11 :: c12 :: c13 :: c14 :: c15 :: c16 :: c17 :: c18 :: c19 :: c20 :: c21 :: c22 :: c23 :: c24 :: c25 :: c26 :: c27 :: c28 :: c29 :: c30 :: c31 :: c32 :: c33 :: c34 :: c35 :: c36 :: c37 :: c38 :: c39 :: c40 :: c41 :: c42 :: c43 :: c44 :: c45 :: c46 :: c47 :: c48 :: c49 :: c50 :: c51 :: c52 :: c53 :: c54 :: c55 :: c56 :: c57 :: c58 :: c59 :: c60 :: c61 :: c62 :: c63 :: c64 :: c65 :: c66 :: c67 :: c68 :: c69 :: c70 :: c71 :: c72 :: c73 :: c74 :: u75 :: u76 :: u77 :: u78 :: u79 :: u80 :: u81 :: u82 :: u83 :: u84 :: u85 :: u86 :: u87 :: u88 :: u89 :: u90 :: u91 :: u92 :: u93 :: u94 :: u95 :: u96 :: u97 :: u98 :: u99 :: u100 :: u101 :: u102 :: u103 :: u104 :: u105 :: u106 :: u107 :: u108 :: u109 :: u110 :: u111 :: u112 :: u113 :: u114 :: u115 :: u116 :: u117 :: u118 :: u119 :: u120 :: u121 :: u122 :: u123 :: u124 :: u125 :: c126 :: c127 :: c128 :: c129 :: c130 :: c131 :: c132 :: c133 :: c134 :: c135 :: c136 :: c137 :: c138 :: c139 :: c140 :: c141 :: c142 :: c143 :: c144 :: c145 :: c146 :: c147 :: c148 :: c149 :: c150 :: c151 :: c152 :: c153 :: c154 :: c155 :: []), []⟩ W := by
  have HX := Lib.hid hx
  clear hx
  conv => arg 2; arg 1; whnf
  go_loopw [8, 9] (fun v i wr => ∃ (j : Nat) (v7 : Value), j ≤ m ∧ v = v7 ∧ i = .int .i64 j ∧ Hid (RrSt w wr B (opsN sp j).2 lim2 cf v8 (.slice none 0 0) ps []) ∧ Hid (CurRow wr lim2 v7 (opsN sp j).1) ∧ lim2 ≤ wr.heap.size) (fun _ i _ => m - (intOf i).toNat)
  case atStart => exact ⟨0, _, Nat.zero_le _, rfl, rfl, HP.out, World.ownsRow_nil _ _ _ _, hl⟩
  case round =>
    obtain ⟨j, v7, hj, rfl, rfl, HQ, HC, hlw⟩ := hrel
    by_cases hjl : j < m
    · have hsj := Nat.le_trans (opsN_size sp j) hst
      clear HP HX hl
      have HRO : Hid (opsN sp (j + 1) = ((opsN sp j).1 ++ [(foldF (fieldsOf (1 + hd (opsN sp j).2 % 16)) (op0 (1 + hd (opsN sp j).2 % 16), tl (opsN sp j).2)).1], (foldF (fieldsOf (1 + hd (opsN sp j).2 % 16)) (op0 (1 + hd (opsN sp j).2 % 16), tl (opsN sp j).2)).2)) := by show _ = _; rfl
      have HLN := Lib.hid (opsN_len sp j)
      generalize (opsN sp j).1 = xs at *
      generalize (opsN sp j).2 = s0 at *
      have hxl : xs.length < 8 := by have := HLN.out; omega
      go_upto_block 3 with fail
      refine wp_block ?_
      refine refOpN w wr B lim2 s0 cf v8 u8 ps xs _ _ _ _ _ _ _ _ _ _ _ _ _ _ _ _ _ _ _ _ _ _ _ _ _ _ _ _ _ _ _ _ _ _ _ _ _ _ _ _ _ _ _ _ _ _ _ _ _ _ _ _ _ _ _ _ _ _ _ _ _ _ _ _ _ _ _ _ _ _ _ _ _ _ _ _ _ _ _ _ _ _ _ _ _ _ _ _ _ _ _ _ _ _ _ _ _ _ _ _ _ _ _ _ _ _  _ _ _ _ _ _ _ _ _ _ _ _ _ _ _ _ _ _ _ _ _ _ _ _ _ _ _ _ _ _ _ _ _ _ _ _ _ _ _ _ _ _ _ _ _ _ _ _  _ ?_ HQ HC hlw HL4 hsj hxl
      clear HQ HC hlw
      rintro v' _ _ _ _ _ _ _ _ _ _ _ _ _ _ _ _ _ _ _ _ _ _ _ _ _ _ _ _ _ _ _ _ _ _ _ _ _ _ _ _ _ _ _ _ _ _ _ _  w20 HA
      go_wp2_with fail
      go_roundw
      case rel => exact ⟨j + 1, _, by omega, rfl, by go_num, by rw [HRO.out]; exact HA.out.1, by rw [HRO.out]; exact HA.out.2.1, HA.out.2.2⟩
      case measure => simp [intOf]; omega
    · obtain rfl : j = m := by omega
      go_wp2_with fail
      exact HX.out _ _ _ _ _ _ _ _ _ _ _ _ _ _ _ _ _ _ _ _ _ _ _ _ _ _ _ _ _ _ _ _ _ _ _ _ _ _ _ _ _ _ _ _ _ _ _ _ _ _ _ _ _ _ _ ⟨HQ.out, HC.out, hlw⟩

theorem prog_pushedR {w0 W w1 : World} {B lim lim' n c : Nat} {A : Option Addr} {s : ByteArray} {cf : CfgV} {v8 v9 v1 : Value} {ps : List (List OpV)} {ks : List Int} {xs : List OpV} {O : Obj} {vals : List Value}
    (h : RrSt w0 W B s lim cf v8 v9 ps ks) (hc : CurRow W lim' (.slice A n c) xs) (hl : lim ≤ W.heap.size) (h8 : W.ownsRow B 41 1 v8 ps.length vals) (hp : ProgVals W lim vals ps)
    (hown : w1.ownsRow B 41 1 v1 (ps.length + 1) (vals ++ [.slice A n c])) (hg : (W.alloc O).grownBy w1 v8.ownBlock) :
    w1.cell? ⟨B + 1 + 1, 8, none⟩ = some v8 ∧ w1.frozen? ⟨B + 1 + 1, 8, none⟩ = false ∧ RrSt w0 (w1.setCell ⟨B + 1 + 1, 8, none⟩ v1) B s W.heap.size cf v1 v9 (ps ++ [xs]) ks := by
  obtain ⟨rfl, hx⟩ := opsIn_of_cur hc
  have ha := h.alloc O
  have h3 := h.lt2
  have h8a : (W.alloc O).ownsRow B 41 1 v8 ps.length vals := World.ownsRow.alloc h8 _
  have hne : ∀ {q : Nat} {t : TypeId}, ElemT (W.alloc O) q t → t ≠ 41 → w1.heap[q]? = (W.alloc O).heap[q]? := fun {q t} ht hn => hg.block q ht.lt (fun e => absurd rfl (ht.ne (own_elem h8a e.symm) hn))
  have hk0 := hne ha.str.elem (by decide)
  have hk1 : w1.heap[B]? = (W.alloc O).heap[B]? := hne (t := 28) ⟨_, ha.res⟩ (by decide)
  have hk2 := hne ha.bld.t (by decide)
  have hxa : OpsIn (W.alloc O) W.heap.size A xs := fun hpos => by
    obtain ⟨b, o, e, hb, ht, hcl⟩ := hx hpos
    have hkb : (W.alloc O).heap[b]? = W.heap[b]? := Below.heap_alloc _ _ _ ht.lt
    exact ⟨b, o, e, hb, ht.keep hkb, fun j hj => (hcl j hj).keep hkb⟩
  have hpa : ProgVals (W.alloc O) lim vals ps := hp.mild (Mild.alloc W O lim)
  have hb := Bld.push_prog ha.bld hl hxa vals hpa hown hg h8a
  refine ⟨(World.cell?_of_block (a := ⟨B + 1 + 1, 8, none⟩) hk2).trans ha.bld.c8, (ha.bld.t.keep hk2).frozen 8, ?_, ?_, hb, ?_⟩
  · exact (ha.str.grownN hk0).grownN (Below.heap_setCell _ _ _ _ (by show B + 1 ≠ B + 1 + 1; omega))
  · exact (Below.heap_setCell _ _ _ _ (by show B ≠ B + 1 + 1; omega)).trans (hk1.trans ha.res)
  · refine (ha.bel.trans ⟨hg.os, hg.tape, hg.output, hg.size, fun k hk => hg.block k (by simp; omega) (fun e => ?_)⟩).setCell (by show B ≤ B + 1 + 1; omega) _
    have := (World.ownsRow.lt h8a k e.symm).1
    omega
theorem pick_pushedR {w0 W w1 : World} {B lim : Nat} {s : ByteArray} {cf : CfgV} {v8 v9 v1 : Value} {ps : List (List OpV)} {ks : List Int} {x : Int} {O : Obj} {k : Nat}
    (h : RrSt w0 W B s lim cf v8 v9 ps ks) (hk : ks.length = k)
    (hown : w1.ownsRow B 3 1 v1 (k + 1) (ks.map (Value.int .i64) ++ [.int .i64 x])) (hg : (W.alloc O).grownBy w1 v9.ownBlock) :
    w1.cell? ⟨B + 1 + 1, 9, none⟩ = some v9 ∧ w1.frozen? ⟨B + 1 + 1, 9, none⟩ = false ∧ RrSt w0 (w1.setCell ⟨B + 1 + 1, 9, none⟩ v1) B s lim cf v8 v1 ps (ks ++ [x]) := by
  subst hk
  have ha := h.alloc O
  have h3 := h.lt2
  have h9a := ha.bld.picks
  have hne : ∀ {q : Nat} {t : TypeId}, ElemT (W.alloc O) q t → t ≠ 3 → w1.heap[q]? = (W.alloc O).heap[q]? := fun {q t} ht hn => hg.block q ht.lt (fun e => absurd rfl (ht.ne (own_elem h9a e.symm) hn))
  have hk0 := hne ha.str.elem (by decide)
  have hk1 : w1.heap[B]? = (W.alloc O).heap[B]? := hne (t := 28) ⟨_, ha.res⟩ (by decide)
  have hk2 := hne ha.bld.t (by decide)
  have hb := Bld.push_pick ha.bld hown hg
  refine ⟨(World.cell?_of_block (a := ⟨B + 1 + 1, 9, none⟩) hk2).trans ha.bld.c9, (ha.bld.t.keep hk2).frozen 9, ?_, ?_, hb, ?_⟩
  · exact (ha.str.grownN hk0).grownN (Below.heap_setCell _ _ _ _ (by show B + 1 ≠ B + 1 + 1; omega))
  · exact (Below.heap_setCell _ _ _ _ (by show B ≠ B + 1 + 1; omega)).trans (hk1.trans ha.res)
  · refine (ha.bel.trans ⟨hg.os, hg.tape, hg.output, hg.size, fun k hk => hg.block k (by simp; omega) (fun e => ?_)⟩).setCell (by show B ≤ B + 1 + 1; omega) _
    have := (World.ownsRow.lt h9a k e.symm).1
    omega

set_option maxHeartbeats 4000000 in
set_option maxRecDepth 100000 in
theorem clientsLoopR (w W : World) (B cl : Nat) (s8 : ByteArray) (cf : CfgV)
    (c0 c1 c2 c12 c13 c14 c15 c16 c17 c18 c19 c20 c21 c22 c23 c24 c25 c26 c27 c28 c29 c30 c31 c32 c33 c34 c35 c36 c37 c38 c39 c40 c41 c42 c43 c44 c45 c46 c47 c48 c49 c50 c51 c52 c53 c54 c55 c56 c57 c58 c59 c60 c61 c62 c63 c64 c132 c133 c134 c135 c136 c137 c138 c139 c140 c141 c142 c143 c144 c145 c146 c147 c148 c149 c150 c151 c152 c153 c154 c155 : Value) (u7 u8 u9 u10 u11 u65 u66 u67 u68 u69 u70 u71 u72 u73 u74 u75 u76 u77 u78 u79 u80 u81 u82 u83 u84 u85 u86 u87 u88 u89 u90 u91 u92 u93 u94 u95 u96 u97 u98 u99 u100 u101 u102 u103 u104 u105 u106 u107 u108 u109 u110 u111 u112 u113 u114 u115 u116 u117 u118 u119 u120 u121 u122 u123 u124 u125 u126 u127 u128 u129 u130 u131 : Value) (Q : Exit → Act → World → Prop)
    (hx : ∀ (v8 : Value) (lim : Nat) (u7 u8 u9 u10 u11 u65 u66 u67 u68 u69 u70 u71 u72 u73 u74 u75 u76 u77 u78 u79 u80 u81 u82 u83 u84 u85 u86 u87 u88 u89 u90 u91 u92 u93 u94 u95 u96 u97 u98 u99 u100 u101 u102 u103 u104 u105 u106 u107 u108 u109 u110 u111 u112 u113 u114 u115 u116 u117 u118 u119 u120 u121 u122 u123 u124 u125 u126 u127 u128 u129 u130 u131 : Value) (W' : World), Hid (RrSt w W' B (progsN s8 cl).2 lim cf v8 (.slice none 0 0) (progsN s8 cl).1 []) → Q (.exit 0) ⟨List.toArray (c0 :: c1 :: c2 :: (.pointer (some ⟨B + 1, 0, none⟩)) :: (.pointer (some ⟨B + 1 + 1, 0, none⟩)) :: (.pointer (some ⟨B + 1 + 1, 0, none⟩)) :: (.int .i64 cl) :: u7 :: u8 :: u9 :: u10 :: u11 :: c12 :: c13 :: c14 :: c15 :: c16 :: c17 :: c18 :: c19 :: c20 :: c21 :: c22 :: c23 :: c24 :: c25 :: c26 :: c27 :: c28 :: c29 :: c30 :: c31 :: c32 :: c33 :: c34 :: c35 :: c36 :: c37 :: c38 :: c39 :: c40 :: c41 :: c42 :: c43 :: c44 :: c45 :: c46 :: c47 :: c48 :: c49 :: c50 :: c51 :: c52 :: c53 :: c54 :: c55 :: c56 :: c57 :: c58 :: c59 :: c60 :: c61 :: c62 :: c63 :: c64 :: u65 :: u66 :: u67 :: u68 :: u69 :: u70 :: u71 :: u72 :: u73 :: u74 :: u75 :: u76 :: u77 :: u78 :: u79 :: u80 :: u81 :: u82 :: u83 :: u84 :: u85 :: u86 :: u87 :: u88 :: u89 :: u90 :: u91 :: u92 :: u93 :: u94 :: u95 :: u96 :: u97 :: u98 :: u99 :: u100 :: u101 :: u102 :: u103 :: u104 :: u105 :: u106 :: u107 :: u108 :: u109 :: u110 :: u111 :: u112 :: u113 :: u114 :: u115 :: u116 :: u117 :: u118 :: u119 :: u120 :: u121 :: u122 :: u123 :: u124 :: u125 :: u126 :: u127 :: u128 :: u129 :: u130 :: u131 :: c132 :: c133 :: c134 :: c135 :: c136 :: c137 :: c138 :: c139 :: c140 :: c141 :: c142 :: c143 :: c144 :: c145 :: c146 :: c147 :: c148 :: c149 :: c150 :: c151 :: c152 :: c153 :: c154 :: c155 :: []), []⟩ W')
    (HP : Hid (RrSt w W B s8 B cf (.slice none 0 0) (.slice none 0 0) [] [])) (hst : s8.size ≤ 3000) (hm4 : cl < 4) (HCC : Hid (cf.clients = cl)) :
    Code.wp Try.prog (Code.loop body13a) Q ⟨List.toArray (c0 :: c1 :: c2 :: (.pointer (some ⟨B + 1, 0, none⟩)) :: (.pointer (some ⟨B + 1 + 1, 0, none⟩)) :: (.pointer (some ⟨B + 1 + 1, 0, none⟩)) :: (.int .i64 (0 : Int)) :: u7 :: u8 :: u9 :: u10 :: u11 :: c12 :: c13 :: c14 :: c15 :: c16 :: c17 :: c18 :: c19 :: c20 :: c21 :: c22 :: c23 :: c24 :: c25 :: c26 :: c27 :: c28 :: c29 :: c30 :: c31 :: c32 :: c33 :: c34 :: c35 :: c36 :: c37 :: c38 :: c39 :: c40 :: c41 :: c42 :: c43 :: c44 :: c45 :: c46 :: c47 :: c48 :: c49 :: c50 :: c51 :: c52 :: c53 :: c54 :: c55 :: c56 :: c57 :: c58 :: c59 :: c60 :: c61 :: c62 :: c63 :: c64 :: u65 :: u66 :: u67 :: u68 :: u69 :: u70 :: u71 :: u72 :: u73 :: u74 :: u75 :: u76 :: u77 :: u78 :: u79 :: u80 :: u81 :: u82 :: u83 :: u84 :: u85 :: u86 :: u87 :: u88 :: u89 :: u90 :: u91 :: u92 :: u93 :: u94 :: u95 :: u96 :: u97 :: u98 :: u99 :: u100 :: u101 :: u102 :: u103 :: u104 :: u105 :: u106 :: u107 :: u108 :: u109 :: u110 :: u111 :: u112 :: u113 :: u114 :: u115 :: u116 :: u117 :: u118 :: u119 :: u120 :: u121 :: u122 :: u123 :: u124 :: u125 :: u126 :: u127 :: u128 :: u129 :: u130 :: u131 :: c132 :: c133 :: c134 :: c135 :: c136 :: c137 :: c138 :: c139 :: c140 :: c141 :: c142 :: c143 :: c144 :: c145 :: c146 :: c147 :: c148 :: c149 :: c150 :: c151 :: c152 :: c153 :: c154 :: c155 :: []), []⟩ W := by
  have HX := Lib.hid hx
  clear hx
  conv => arg 2; arg 1; whnf
  go_loopw [6] (fun i wr => ∃ k : Nat, k ≤ cl ∧ i = .int .i64 k ∧ Hid (∃ lim v8, lim ≤ wr.heap.size ∧ RrSt w wr B (progsN s8 k).2 lim cf v8 (.slice none 0 0) (progsN s8 k).1 [])) (fun i _ => cl - (intOf i).toNat)
  case atStart => exact ⟨0, Nat.zero_le _, rfl, B, _, by have := HP.out.lt2; omega, HP.out⟩
  case round =>
    obtain ⟨k, hk, rfl, HST⟩ := hrel
    obtain ⟨lim, v8, hlim, hrd⟩ := HST.out
    have n2 : wr.cell? ⟨B + 1 + 1, 2, none⟩ = some (.int .i64 cl) := by rw [← HCC.out]; exact hrd.bld.c2
    by_cases hlt : k < cl
    · clear HP
      have HP := Lib.hid hrd
      clear hrd HST HX
      have hsk := Nat.le_trans (progsN_size s8 k) hst
      have HPL := Lib.hid (progsN_len s8 k)
      have HPS : Hid (progsN s8 (k + 1) = ((progsN s8 k).1 ++ [(opsN (tl (progsN s8 k).2) (hd (progsN s8 k).2 % 8).toNat).1], (opsN (tl (progsN s8 k).2) (hd (progsN s8 k).2 % 8).toNat).2)) := by show _ = _; rfl
      go_wp2_with fail
      refine (refNext 8 (B + 1) 56 (progsN s8 k).2 _ HP.out.str hsk (by omega) (by omega)).mono ?_
      rintro e w8 ⟨rfl, hb, hg⟩
      replace HP := Lib.hid (HP.out.next hb hg)
      have hgs := hg.size
      clear hb hg n2
      have b0 := Int.emod_nonneg (hd (progsN s8 k).2) (show (8 : Int) ≠ 0 by omega)
      have b1 := Int.emod_lt_of_pos (hd (progsN s8 k).2) (show (0 : Int) < 8 by omega)
      have hsp : (tl (progsN s8 k).2).size ≤ 3000 := by rw [tl_size]; omega
      generalize hd (progsN s8 k).2 % 8 = qm at *
      obtain ⟨m, rfl⟩ := Int.eq_ofNat_of_zero_le b0
      rw [Int.toNat_natCast] at HPS
      have hm8 : m < 8 := by omega
      clear b0 b1 hsk
      generalize tl (progsN s8 k).2 = sp at *
      generalize (progsN s8 k).1 = ps at *
      have HL4 : Hid (B + 1 + 1 + 1 ≤ w8.heap.size) := HP.out.lt2
      have HLE : Hid (lim ≤ w8.heap.size) := by show lim ≤ w8.heap.size; omega
      replace HP : Hid (RrSt w w8 B sp w8.heap.size cf v8 (.slice none 0 0) ps []) := HP.out.more HLE.out
      clear hgs hlim
      go_wp2_with fail
      refine opsLoopR w w8 B w8.heap.size m sp cf v8 ps _ _ _ _ _ _ _ _ _ _ _ _ _ _ _ _ _ _ _ _ _ _ _ _ _ _ _ _ _ _ _ _ _ _ _ _ _ _ _ _ _ _ _ _ _ _ _ _ _ _ _ _ _ _ _ _ _ _ _ _ _ _ _ _ _ _ _ _ _ _ _ _ _ _ _ _ _ _ _ _ _ _ _ _ _ _ _ _ _ _ _ _ _ _ _ _ _ _ _  _ _ _ _ _ _ _ _ _ _ _ _ _ _ _ _ _ _ _ _ _ _ _ _ _ _ _ _ _ _ _ _ _ _ _ _ _ _ _ _ _ _ _ _ _ _ _ _ _ _ _ _ _  _ ?_ HP (Nat.le_refl _) HL4 hsp hm8
      clear HP
      rintro v7 _ _ _ _ _ _ _ _ _ _ _ _ _ _ _ _ _ _ _ _ _ _ _ _ _ _ _ _ _ _ _ _ _ _ _ _ _ _ _ _ _ _ _ _ _ _ _ _ _ _ _ _ _  w11 HR
      have hlw := HR.out.2.2
      have HC := Lib.hid HR.out.2.1
      replace HR := Lib.hid HR.out.1
      have n8 := HR.out.bld.c8
      obtain ⟨A, c, rfl⟩ := own_form HC.out
      obtain ⟨vals, h8, hp⟩ := HR.out.bld.progs
      have H8 := Lib.hid h8
      have HPV := Lib.hid hp
      clear h8 hp
      obtain ⟨i0, hi, hz0, hz1, hz2⟩ := info_parts slice_info
      have hpl : ps.length < 4 := by have := HPL.out; omega
      have hB11 : B ≤ w11.heap.size := by have := HR.out.lt2; omega
      generalize hnx : (opsN sp m).1.length = nx at *
      have HNX := Lib.hid hnx
      clear hnx
      go_wp2_with (at_builtin; refine wpList_append_own _ rfl _ _ 25 rfl B 41 i0 (.slice none 0 0) 1 24 Try.underlying25 hi hz0 hz1 hz2 rfl (by decide) _ _ _ rfl (H8.out.alloc _) ⟨w11.heap.size, 0, none⟩ 1 1 [.slice A nx c] rfl rfl (news_val _ _ _) (one_slice _ _ _) ?c3 ?c4 ?c5 ?_)
      case c3 => unfold maxLen; omega
      case c4 => omega
      case c5 => simp; omega
      intro v' w12 hown hgrow _
      obtain ⟨A', c', rfl⟩ := own_form hown
      have hgz : w11.heap.size ≤ w12.heap.size := by have := hgrow.size; simp at this; omega
      obtain ⟨q1, q2, q3⟩ := prog_pushedR HR.out HC.out hlw H8.out HPV.out hown hgrow
      have HA := Lib.hid q3
      clear hown hgrow HR HC H8 HPV q3
      go_wp2_with fail
      go_roundw
      case rel => exact ⟨k + 1, by omega, by go_num, _, _, by simp; exact hgz, by rw [HPS.out]; exact HA.out⟩
      case measure => simp [intOf]; omega
    · obtain rfl : k = cl := by omega
      go_wp2_with fail
      exact HX.out v8 lim _ _ _ _ _ _ _ _ _ _ _ _ _ _ _ _ _ _ _ _ _ _ _ _ _ _ _ _ _ _ _ _ _ _ _ _ _ _ _ _ _ _ _ _ _ _ _ _ _ _ _ _ _ _ _ _ _ _ _ _ _ _ _ _ _ _ _ _ _ _ _ _ _ (Lib.hid hrd)

noncomputable def body13d : Code := (((Try.f13.body.map loopsOf).getD [])[1]?).getD .skip
set_option maxHeartbeats 4000000 in
set_option maxRecDepth 100000 in
theorem picksLoopR (w W : World) (B cl lim : Nat) (rp : ByteArray) (cf : CfgV) (v8 : Value) (ps : List (List OpV))
    (c0 c1 c2 c6 c7 c8 c9 c10 c11 c13 c14 c15 c16 c17 c18 c19 c20 c21 c22 c23 c24 c25 c26 c27 c28 c29 c30 c31 c32 c33 c34 c35 c36 c37 c38 c39 c40 c41 c42 c43 c44 c45 c46 c47 c48 c49 c50 c51 c52 c53 c54 c55 c56 c57 c58 c59 c60 c61 c62 c63 c64 c65 c66 c67 c68 c69 c70 c71 c72 c73 c74 c75 c76 c77 c78 c79 c80 c81 c82 c83 c84 c85 c86 c87 c88 c89 c90 c91 c92 c93 c94 c95 c96 c97 c98 c99 c100 c101 c102 c103 c104 c105 c106 c107 c108 c109 c110 c111 c112 c113 c114 c115 c116 c117 c118 c119 c120 c121 c122 c123 c124 c125 c126 c127 c128 c129 c130 c131 c155 : Value) (u132 u133 u134 u135 u136 u137 u138 u139 u140 u141 u142 u143 u144 u145 u146 u147 u148 u149 u150 u151 u152 u153 u154 : Value) (Q : Exit → Act → World → Prop)
    (hx : ∀ (v9 : Value) (u132 u133 u134 u135 u136 u137 u138 u139 u140 u141 u142 u143 u144 u145 u146 u147 u148 u149 u150 u151 u152 u153 u154 : Value) (W' : World), Hid (RrSt w W' B (tlN rp rp.size) lim cf v8 v9 ps (picksN rp cl rp.size)) → Q (.exit 4) ⟨List.toArray (c0 :: c1 :: c2 :: (.pointer (some ⟨B + 1, 0, none⟩)) :: (.pointer (some ⟨B + 1 + 1, 0, none⟩)) :: (.pointer (some ⟨B + 1 + 1, 0, none⟩)) :: c6 :: c7 :: c8 :: c9 :: c10 :: c11 :: (.int .i64 (rp.size : Nat)) :: c13 :: c14 :: c15 :: c16 :: c17 :: c18 :: c19 :: c20 :: c21 :: c22 :: c23 :: c24 :: c25 :: c26 :: c27 :: c28 :: c29 :: c30 :: c31 :: c32 :: c33 :: c34 :: c35 :: c36 :: c37 :: c38 :: c39 :: c40 :: c41 :: c42 :: c43 :: c44 :: c45 :: c46 :: c47 :: c48 :: c49 :: c50 :: c51 :: c52 :: c53 :: c54 :: c55 :: c56 :: c57 :: c58 :: c59 :: c60 :: c61 :: c62 :: c63 :: c64 :: c65 :: c66 :: c67 :: c68 :: c69 :: c70 :: c71 :: c72 :: c73 :: c74 :: c75 :: c76 :: c77 :: c78 :: c79 :: c80 :: c81 :: c82 :: c83 :: c84 :: c85 :: c86 :: c87 :: c88 :: c89 :: c90 :: c91 :: c92 :: c93 :: c94 :: c95 :: c96 :: c97 :: c98 :: c99 :: c100 :: c101 :: c102 :: c103 :: c104 :: c105 :: c106 :: c107 :: c108 :: c109 :: c110 :: c111 :: c112 :: c113 :: c114 :: c115 :: c116 :: c117 :: c118 :: c119 :: c120 :: c121 :: c122 :: c123 :: c124 :: c125 :: c126 :: c127 :: c128 :: c129 :: c130 :: c131 :: u132 :: u133 :: u134 :: u135 :: u136 :: u137 :: u138 :: u139 :: u140 :: u141 :: u142 :: u143 :: u144 :: u145 :: u146 :: u147 :: u148 :: u149 :: u150 :: u151 :: u152 :: u153 :: u154 :: c155 :: []), []⟩ W')
    (HP : Hid (RrSt w W B rp lim cf v8 (.slice none 0 0) ps [])) (hst : rp.size ≤ 3000) (hm4 : cl < 4) (HCC : Hid (cf.clients = cl)) :
    Code.wp Try.prog (Code.loop body13d) Q ⟨List.toArray (c0 :: c1 :: c2 :: (.pointer (some ⟨B + 1, 0, none⟩)) :: (.pointer (some ⟨B + 1 + 1, 0, none⟩)) :: (.pointer (some ⟨B + 1 + 1, 0, none⟩)) :: c6 :: c7 :: c8 :: c9 :: c10 :: c11 :: (.int .i64 (0 : Int)) :: c13 :: c14 :: c15 :: c16 :: c17 :: c18 :: c19 :: c20 :: c21 :: c22 :: c23 :: c24 :: c25 :: c26 :: c27 :: c28 :: c29 :: c30 :: c31 :: c32 :: c33 :: c34 :: c35 :: c36 :: c37 :: c38 :: c39 :: c40 :: c41 :: c42 :: c43 :: c44 :: c45 :: c46 :: c47 :: c48 :: c49 :: c50 :: c51 :: c52 :: c53 :: c54 :: c55 :: c56 :: c57 :: c58 :: c59 :: c60 :: c61 :: c62 :: c63 :: c64 :: c65 :: c66 :: c67 :: c68 :: c69 :: c70 :: c71 :: c72 :: c73 :: c74 :: c75 :: c76 :: c77 :: c78 :: c79 :: c80 :: c81 :: c82 :: c83 :: c84 :: c85 :: c86 :: c87 :: c88 :: c89 :: c90 :: c91 :: c92 :: c93 :: c94 :: c95 :: c96 :: c97 :: c98 :: c99 :: c100 :: c101 :: c102 :: c103 :: c104 :: c105 :: c106 :: c107 :: c108 :: c109 :: c110 :: c111 :: c112 :: c113 :: c114 :: c115 :: c116 :: c117 :: c118 :: c119 :: c120 :: c121 :: c122 :: c123 :: c124 :: c125 :: c126 :: c127 :: c128 :: c129 :: c130 :: c131 :: u132 :: u133 :: u134 :: u135 :: u136 :: u137 :: u138 :: u139 :: u140 :: u141 :: u142 :: u143 :: u144 :: u145 :: u146 :: u147 :: u148 :: u149 :: u150 :: u151 :: u152 :: u153 :: u154 :: c155 :: []), []⟩ W := by
  have HX := Lib.hid hx
  clear hx
  refine wp_mono (Q := OnlyExit 4 (Q (.exit 4))) ?_ OnlyExit.use
  conv => arg 2; arg 1; whnf
  go_loopw [12] (fun i wr => ∃ (k : Nat), k ≤ rp.size ∧ i = .int .i64 k ∧ Hid (∃ v9, RrSt w wr B (tlN rp k) lim cf v8 v9 ps (picksN rp cl k))) (fun i wr => rp.size - (intOf i).toNat)
  case atStart => exact ⟨0, Nat.zero_le _, rfl, _, HP.out⟩
  case round =>
    clear HP
    obtain ⟨k, hk, rfl, HRL⟩ := hrel
    obtain ⟨v9, hrd⟩ := HRL.out
    have HP := Lib.hid hrd
    have hsz := tlN_size rp k
    have n1 := hrd.str.cell
    have n2 : wr.cell? ⟨B + 1 + 1, 2, none⟩ = some (.int .i64 cl) := by rw [← HCC.out]; exact hrd.bld.c2
    have HO := Lib.hid hrd.bld.picks
    obtain ⟨A9, c9, rfl⟩ := own_slice hrd.bld.picks
    rw [picksN_len] at *
    have n9 := HP.out.bld.c9
    clear hrd HRL
    have hk2 : (k : Int) < 32768 := by omega
    by_cases hlt : k < rp.size
    · have hse : (tlN rp k).toList.isEmpty = false := by rw [toList_empty, decide_eq_false_iff_not]; omega
      clear HX
      have hw1 : IntKind.i64.wrap ((cl : Int) + 1) = (cl : Int) + 1 := IntWalk.i64_in _ (by omega)
      have hw2 : 0 ≤ (cl : Int) + 1 := by omega
      have HTL := Lib.hid (tlN_succ rp k)
      have HPK := Lib.hid (picksN_succ rp cl k)
      have HPL := Lib.hid (picksN_len rp cl k)
      have HPd := Lib.hid (HP.out.drew)
      have HNX := Lib.hid (refNext ((cl : Int) + 1) (B + 1) 56 (tlN rp k) wr.drew HPd.out.str (by omega) (by omega) (by omega))
      have hB : B ≤ wr.heap.size := by have := HP.out.lt2; omega
      obtain ⟨i0, hi, hz0, hz1, hz2⟩ := info_parts int_info
      generalize hd (tlN rp k) % ((cl : Int) + 1) = x at *
      generalize tl (tlN rp k) = s2 at *
      go_wp2_with fail
      go_region_law (first
        | (go_simp; go_at_call 30; refine HNX.out.mono ?_; rintro e w10 ⟨rfl, hb, hg⟩; (have HP1 := Lib.hid (HPd.out.next hb hg)); (have m9 := HP1.out.bld.c9); (have m2 : w10.cell? ⟨B + 1 + 1, 2, none⟩ = some (.int .i64 cl) := by rw [← HCC.out]; exact HP1.out.bld.c2); (have HO1 : Hid (w10.ownsRow B 3 1 (.slice A9 k c9) k ((picksN rp cl k).map (Value.int .i64))) := by have := HP1.out.bld.picks; rw [HPL.out] at this; exact this); (have m9a : (w10.alloc (Obj.cells #[Value.int IntKind.i64 x] 3)).cell? ⟨B + 1 + 1, 9, none⟩ = some (.slice A9 k c9) := (HP1.out.alloc _).bld.c9); (have hgz : wr.heap.size ≤ w10.heap.size := hg.size); clear hb hg)
        | (refine step_append_lies _ rfl (.tmp 144) (.tmp 152) 26 rfl B 3 i0 (.int .i64 0) 1 8 Try.underlying26 hi hz0 hz1 hz2 rfl (by decide) (.slice A9 k c9) k ((picksN rp cl k).map (Value.int .i64)) (by simp [Act.eval, Act.put]) (HO1.out.alloc _) _ 1 1 [.int .i64 x] (by simp [Act.eval, Act.put]) rfl (news_one' _ _ _) (one_one _) (by omega) (by unfold maxLen; omega) (by omega) (by simp; omega) _ rfl ?_; intro g cap w11 hown hgrow _ _; (obtain ⟨q1, q2, q3⟩ := pick_pushedR HP1.out HPL.out hown hgrow); (have HA := Lib.hid q3); clear hown hgrow q3))
      all_goals
        go_wp2_with fail
        go_roundw
        case rel => exact ⟨k + 1, by omega, by go_num, _, by rw [HTL.out, HPK.out]; exact HA.out⟩
        case measure => simp [intOf]; omega
    · obtain rfl : k = rp.size := by omega
      have hse : (tlN rp rp.size).toList.isEmpty = true := by rw [toList_empty, decide_eq_true_eq]; omega
      go_wp2_with fail
      exact ⟨rfl, HX.out _ _ _ _ _ _ _ _ _ _ _ _ _ _ _ _ _ _ _ _ _ _ _ _ _ HP⟩
end Go.Proofs.Ytcicememljlafaa
