import Derived.Test.YtcicememljlafaaR5b
namespace Go.Proofs.Ytcicememljlafaa
open Go.RowKit

theorem flat_get : ∀ (xs : List OpV) (j i : Nat), j < xs.length → i < 7 → (xs.flatMap opCells)[j * 7 + i]? = (opCells (xs.getD j noOp))[i]?
  | [], j, i, h, _ => absurd h (by simp)
  | x :: xs, 0, i, _, hi => by
    rw [List.flatMap_cons, List.getElem?_append_left (by simp [opCells]; omega)]
    simp
  | x :: xs, j + 1, i, h, hi => by
    rw [List.flatMap_cons, List.getElem?_append_right (by simp [opCells]; omega)]
    have e : (j + 1) * 7 + i - (opCells x).length = j * 7 + i := by simp [opCells]; omega
    rw [e, flat_get xs j i (by simp at h; omega) hi]
    simp
theorem opsIn_of_cur {W : World} {lim n c : Nat} {A : Option Addr} {xs : List OpV} (h : CurRow W lim (.slice A n c) xs) : n = xs.length ∧ OpsIn W W.heap.size A xs := by
  have hl : n = xs.length := by
    rcases h.2 with ⟨e, h2⟩ | ⟨g, cap, cur, e, _⟩
    · injection e with _ e _; omega
    · injection e
  refine ⟨hl, fun hx => ?_⟩
  obtain ⟨g, cap, hv, _, hlt⟩ := World.ownsRow.form h hx
  have hA : A = some ⟨g, 0, none⟩ := by injection hv
  subst hA
  refine ⟨g, 0, rfl, hlt, own_elem h rfl, fun j hj => ?_⟩
  have hc : ∀ i u, i < 7 → (opCells (xs.getD j noOp))[i]? = some u → W.cell? ⟨g, 0 + j * 7 + i, none⟩ = some u := by
    intro i u hi hu
    have := World.ownsRow.cells h (g := g) rfl (j * 7 + i) u (by rw [cur_flat, flat_get xs j i hj hi]; exact hu)
    rw [← this]
    unfold Addr.add
    by_cases h0 : j * 7 + i = 0
    · have : 0 + j * 7 + i = 0 := by omega
      simp [h0, this]
    · have : 0 + j * 7 + i = j * 7 + i := by omega
      rw [if_neg h0, this]; simp
  exact ⟨hc 0 _ (by omega) rfl, hc 1 _ (by omega) rfl, hc 2 _ (by omega) rfl, hc 3 _ (by omega) rfl, hc 4 _ (by omega) rfl, hc 5 _ (by omega) rfl, hc 6 _ (by omega) rfl⟩
theorem own_form {w : World} {base : Nat} {e : TypeId} {size n : Nat} {v : Value} {xs : List Value} (h : w.ownsRow base e size v n xs) : ∃ A c, v = .slice A n c := by
  rcases h.2 with ⟨rfl, rfl⟩ | ⟨g, cap, cur, rfl, _⟩
  · exact ⟨_, _, rfl⟩
  · exact ⟨_, _, rfl⟩
theorem news_val (W : World) (v : Value) (t : TypeId) : ∀ j u, ([v] : List Value)[j]? = some u → (W.alloc (.cells #[v] t)).cell? ((⟨W.heap.size, 0, none⟩ : Addr).add j) = some u := by
  intro j u hj
  match j, hj with
  | 0, hj => simp at hj; subst hj; simp [Addr.add]
theorem one_slice (A : Option Addr) (n c : Nat) : ∀ u ∈ ([Value.slice A n c] : List Value), u.oneCell' = true := by intro u hu; simp at hu; subst hu; rfl

theorem prog_pushed {w0 W w1 : World} {B lim lim' n c : Nat} {A : Option Addr} {s : ByteArray} {cf : CfgV} {v8 v9 v1 : Value} {ps : List (List OpV)} {ks : List Int} {xs : List OpV} {O : Obj} {vals : List Value}
    (h : RdSt w0 W B s lim cf v8 v9 ps ks) (hc : CurRow W lim' (.slice A n c) xs) (hl : lim ≤ W.heap.size) (h8 : W.ownsRow B 41 1 v8 ps.length vals) (hp : ProgVals W lim vals ps)
    (hown : w1.ownsRow B 41 1 v1 (ps.length + 1) (vals ++ [.slice A n c])) (hg : (W.alloc O).grownBy w1 v8.ownBlock) :
    w1.cell? ⟨B + 1 + 1, 8, none⟩ = some v8 ∧ w1.frozen? ⟨B + 1 + 1, 8, none⟩ = false ∧ RdSt w0 (w1.setCell ⟨B + 1 + 1, 8, none⟩ v1) B s W.heap.size cf v1 v9 (ps ++ [xs]) ks := by
  obtain ⟨rfl, hx⟩ := opsIn_of_cur hc
  have ha := h.alloc O
  have h3 := h.lt3
  have h8a : (W.alloc O).ownsRow B 41 1 v8 ps.length vals := World.ownsRow.alloc h8 _
  have hne : ∀ {q : Nat} {t : TypeId}, ElemT (W.alloc O) q t → t ≠ 41 → w1.heap[q]? = (W.alloc O).heap[q]? := fun {q t} ht hn => hg.block q ht.lt (fun e => absurd rfl (ht.ne (own_elem h8a e.symm) hn))
  have hk0 := hne ha.str.elem (by decide)
  have hk1 : w1.heap[B + 1]? = (W.alloc O).heap[B + 1]? := hne (t := 28) ⟨_, ha.res⟩ (by decide)
  have hk2 := hne ha.bld.t (by decide)
  have hk3 := hne ha.fnt (by decide)
  have hxa : OpsIn (W.alloc O) W.heap.size A xs := fun hpos => by
    obtain ⟨b, o, e, hb, ht, hcl⟩ := hx hpos
    have hkb : (W.alloc O).heap[b]? = W.heap[b]? := Below.heap_alloc _ _ _ ht.lt
    exact ⟨b, o, e, hb, ht.keep hkb, fun j hj => (hcl j hj).keep hkb⟩
  have hpa : ProgVals (W.alloc O) lim vals ps := hp.mild (Mild.alloc W O lim)
  have hb := Bld.push_prog ha.bld hl hxa vals hpa hown hg h8a
  refine ⟨(World.cell?_of_block (a := ⟨B + 1 + 1, 8, none⟩) hk2).trans ha.bld.c8, (ha.bld.t.keep hk2).frozen 8, ?_, ?_, hb, ?_, ?_⟩
  · exact (ha.str.grownN hk0).grownN (Below.heap_setCell _ _ _ _ (by show B ≠ B + 1 + 1; omega))
  · exact (Below.heap_setCell _ _ _ _ (by show B + 1 ≠ B + 1 + 1; omega)).trans (hk1.trans ha.res)
  · exact (Below.heap_setCell _ _ _ _ (by show B + 1 + 1 + 1 ≠ B + 1 + 1; omega)).trans (hk3.trans ha.fnb)
  · refine (ha.bel.trans ⟨hg.os, hg.tape, hg.output, hg.size, fun k hk => hg.block k (by simp; omega) (fun e => ?_)⟩).setCell (by show B ≤ B + 1 + 1; omega) _
    have := (World.ownsRow.lt h8a k e.symm).1
    omega

set_option maxHeartbeats 4000000 in
set_option maxRecDepth 100000 in
theorem clientsLoop (w W : World) (B cl : Nat) (s8 : ByteArray) (cf : CfgV)
    (c0 c1 c2 c6 c9 c11 c12 c13 c14 c15 c16 c17 c18 c19 c20 c21 c22 c23 c24 c25 c26 c27 c28 c29 c30 c31 c32 c33 c34 c35 c36 c37 c38 c39 c40 c41 c42 c43 c44 c45 c46 c47 c48 c49 c50 c51 c52 c53 c54 c55 c56 c57 c58 c59 c60 c61 c62 c127 c128 c129 c130 c131 c132 c133 c134 c135 c136 c137 c138 c139 c140 c141 c142 c143 c144 c145 c146 c147 : Value) (u7 u8 u10 u65 u66 u67 u68 u69 u70 u71 u72 u73 u74 u75 u76 u77 u78 u79 u80 u81 u82 u83 u84 u85 u86 u87 u88 u89 u90 u91 u92 u93 u94 u95 u96 u97 u98 u99 u100 u101 u102 u103 u104 u105 u106 u107 u108 u109 u110 u111 u112 u113 u114 u115 u116 u117 u118 u119 u120 u121 u122 u123 u124 u125 u126 : Value) (Q : Exit → Act → World → Prop)
    (hx : ∀ (v8 : Value) (lim : Nat) (u7 u8 u10 u65 u66 u67 u68 u69 u70 u71 u72 u73 u74 u75 u76 u77 u78 u79 u80 u81 u82 u83 u84 u85 u86 u87 u88 u89 u90 u91 u92 u93 u94 u95 u96 u97 u98 u99 u100 u101 u102 u103 u104 u105 u106 u107 u108 u109 u110 u111 u112 u113 u114 u115 u116 u117 u118 u119 u120 u121 u122 u123 u124 u125 u126 : Value) (W' : World), Hid (RdSt w W' B (progsN s8 cl).2 lim cf v8 (.slice none 0 0) (progsN s8 cl).1 []) → Q (.exit 0) ⟨List.toArray (c0 :: c1 :: c2 :: (.pointer (some ⟨B + 1 + 1, 0, none⟩)) :: (.pointer (some ⟨B + 1 + 1 + 1, 0, none⟩)) :: (.func (.func 27) #[] #[.pointer (some ⟨B + 1 + 1 + 1, 0, none⟩)]) :: c6 :: u7 :: u8 :: c9 :: u10 :: c11 :: c12 :: c13 :: c14 :: c15 :: c16 :: c17 :: c18 :: c19 :: c20 :: c21 :: c22 :: c23 :: c24 :: c25 :: c26 :: c27 :: c28 :: c29 :: c30 :: c31 :: c32 :: c33 :: c34 :: c35 :: c36 :: c37 :: c38 :: c39 :: c40 :: c41 :: c42 :: c43 :: c44 :: c45 :: c46 :: c47 :: c48 :: c49 :: c50 :: c51 :: c52 :: c53 :: c54 :: c55 :: c56 :: c57 :: c58 :: c59 :: c60 :: c61 :: c62 :: (.int .i64 cl) :: (.int .i64 cl) :: u65 :: u66 :: u67 :: u68 :: u69 :: u70 :: u71 :: u72 :: u73 :: u74 :: u75 :: u76 :: u77 :: u78 :: u79 :: u80 :: u81 :: u82 :: u83 :: u84 :: u85 :: u86 :: u87 :: u88 :: u89 :: u90 :: u91 :: u92 :: u93 :: u94 :: u95 :: u96 :: u97 :: u98 :: u99 :: u100 :: u101 :: u102 :: u103 :: u104 :: u105 :: u106 :: u107 :: u108 :: u109 :: u110 :: u111 :: u112 :: u113 :: u114 :: u115 :: u116 :: u117 :: u118 :: u119 :: u120 :: u121 :: u122 :: u123 :: u124 :: u125 :: u126 :: c127 :: c128 :: c129 :: c130 :: c131 :: c132 :: c133 :: c134 :: c135 :: c136 :: c137 :: c138 :: c139 :: c140 :: c141 :: c142 :: c143 :: c144 :: c145 :: c146 :: c147 :: []), []⟩ W')
    (HP : Hid (RdSt w W B s8 B cf (.slice none 0 0) (.slice none 0 0) [] [])) (hst : s8.size ≤ 3000) (hm4 : cl < 4) :
    Code.wp Try.prog (Code.loop body12a) Q ⟨List.toArray (c0 :: c1 :: c2 :: (.pointer (some ⟨B + 1 + 1, 0, none⟩)) :: (.pointer (some ⟨B + 1 + 1 + 1, 0, none⟩)) :: (.func (.func 27) #[] #[.pointer (some ⟨B + 1 + 1 + 1, 0, none⟩)]) :: c6 :: u7 :: u8 :: c9 :: u10 :: c11 :: c12 :: c13 :: c14 :: c15 :: c16 :: c17 :: c18 :: c19 :: c20 :: c21 :: c22 :: c23 :: c24 :: c25 :: c26 :: c27 :: c28 :: c29 :: c30 :: c31 :: c32 :: c33 :: c34 :: c35 :: c36 :: c37 :: c38 :: c39 :: c40 :: c41 :: c42 :: c43 :: c44 :: c45 :: c46 :: c47 :: c48 :: c49 :: c50 :: c51 :: c52 :: c53 :: c54 :: c55 :: c56 :: c57 :: c58 :: c59 :: c60 :: c61 :: c62 :: (.int .i64 cl) :: (.int .i64 (0 : Int)) :: u65 :: u66 :: u67 :: u68 :: u69 :: u70 :: u71 :: u72 :: u73 :: u74 :: u75 :: u76 :: u77 :: u78 :: u79 :: u80 :: u81 :: u82 :: u83 :: u84 :: u85 :: u86 :: u87 :: u88 :: u89 :: u90 :: u91 :: u92 :: u93 :: u94 :: u95 :: u96 :: u97 :: u98 :: u99 :: u100 :: u101 :: u102 :: u103 :: u104 :: u105 :: u106 :: u107 :: u108 :: u109 :: u110 :: u111 :: u112 :: u113 :: u114 :: u115 :: u116 :: u117 :: u118 :: u119 :: u120 :: u121 :: u122 :: u123 :: u124 :: u125 :: u126 :: c127 :: c128 :: c129 :: c130 :: c131 :: c132 :: c133 :: c134 :: c135 :: c136 :: c137 :: c138 :: c139 :: c140 :: c141 :: c142 :: c143 :: c144 :: c145 :: c146 :: c147 :: []), []⟩ W := by
  have HX := Lib.hid hx
  clear hx
  conv => arg 2; arg 1; whnf
  go_loopw [64] (fun i wr => ∃ k : Nat, k ≤ cl ∧ i = .int .i64 k ∧ Hid (∃ lim v8, lim ≤ wr.heap.size ∧ RdSt w wr B (progsN s8 k).2 lim cf v8 (.slice none 0 0) (progsN s8 k).1 [])) (fun i _ => cl - (intOf i).toNat)
  case atStart => exact ⟨0, Nat.zero_le _, rfl, B, _, by have := HP.out.lt3; omega, HP.out⟩
  case round =>
    obtain ⟨k, hk, rfl, HST⟩ := hrel
    by_cases hlt : k < cl
    · obtain ⟨lim, v8, hlim, hrd⟩ := HST.out
      have HP := Lib.hid hrd
      clear hrd HST HX
      have hsk := Nat.le_trans (progsN_size s8 k) hst
      have HPL := Lib.hid (progsN_len s8 k)
      have HPS : Hid (progsN s8 (k + 1) = ((progsN s8 k).1 ++ [(opsN (tl (progsN s8 k).2) (hd (progsN s8 k).2 % 8).toNat).1], (opsN (tl (progsN s8 k).2) (hd (progsN s8 k).2 % 8).toNat).2)) := by show _ = _; rfl
      have n8 := HP.out.fn
      go_wp2_with fail
      refine (nextFn 8 B 9 (progsN s8 k).2 _ HP.out.str hsk (by omega) (by omega)).mono ?_
      rintro e w8 ⟨rfl, hb, hg⟩
      have HP := Lib.hid (HP.out.next hb hg)
      have hgs := hg.size
      clear n8 hb hg
      have b0 := Int.emod_nonneg (hd (progsN s8 k).2) (show (8 : Int) ≠ 0 by omega)
      have b1 := Int.emod_lt_of_pos (hd (progsN s8 k).2) (show (0 : Int) < 8 by omega)
      have hsp : (tl (progsN s8 k).2).size ≤ 3000 := by rw [tl_size]; omega
      generalize hd (progsN s8 k).2 % 8 = qm at *
      obtain ⟨m, rfl⟩ := Int.eq_ofNat_of_zero_le b0
      rw [Int.toNat_natCast] at HPS
      have hm8 : m < 8 := by omega
      clear b0 b1 hsk
      generalize tl (progsN s8 k).2 = sp at *
      generalize (progsN s8 k).1 = ps at *
      have HL4 : Hid (B + 1 + 1 + 1 + 1 ≤ w8.heap.size) := HP.out.lt3
      have HLE : Hid (lim ≤ w8.heap.size) := by show lim ≤ w8.heap.size; omega
      have HP : Hid (RdSt w w8 B sp w8.heap.size cf v8 (.slice none 0 0) ps []) := HP.out.more HLE.out
      clear hgs hlim
      go_wp2_with fail
      refine opsLoop w w8 B w8.heap.size m sp cf v8 ps _ _ _ _ _ _ _ _ _ _ _ _ _ _ _ _ _ _ _ _ _ _ _ _ _ _ _ _ _ _ _ _ _ _ _ _ _ _ _ _ _ _ _ _ _ _ _ _ _ _ _ _ _ _ _ _ _ _ _ _ _ _ _ _ _ _ _ _ _ _ _ _ _ _ _ _ _ _ _ _ _ _ _ _ _ _ _ _ _ _  _ _ _ _ _ _ _ _ _ _ _ _ _ _ _ _ _ _ _ _ _ _ _ _ _ _ _ _ _ _ _ _ _ _ _ _ _ _ _ _ _ _ _ _ _ _ _ _ _ _ _ _ _  _ ?_ HP (Nat.le_refl _) HL4 hsp hm8
      clear HP
      rintro v7 _ _ _ _ _ _ _ _ _ _ _ _ _ _ _ _ _ _ _ _ _ _ _ _ _ _ _ _ _ _ _ _ _ _ _ _ _ _ _ _ _ _ _ _ _ _ _ _ _ _ _ _ _  w11 HR
      have hlw := HR.out.2.2
      have HC := Lib.hid HR.out.2.1
      replace HR := Lib.hid HR.out.1
      have n8 := HR.out.bld.c8
      obtain ⟨A, c, rfl⟩ := own_form HC.out
      obtain ⟨vals, h8, hp⟩ := HR.out.bld.progs
      have H8 := Lib.hid h8
      have HPV := Lib.hid hp
      clear h8 hp
      obtain ⟨i0, hi, hz0, hz1, hz2⟩ := info_parts slice_info
      have hpl : ps.length < 4 := by have := HPL.out; omega
      have hB11 : B ≤ w11.heap.size := by have := HR.out.lt3; omega
      generalize hnx : (opsN sp m).1.length = nx at *
      have HNX := Lib.hid hnx
      clear hnx
      go_wp2_with (at_builtin; refine wpList_append_own _ rfl _ _ 25 rfl B 41 i0 (.slice none 0 0) 1 24 Try.underlying25 hi hz0 hz1 hz2 rfl (by decide) _ _ _ rfl (H8.out.alloc _) ⟨w11.heap.size, 0, none⟩ 1 1 [.slice A nx c] rfl rfl (news_val _ _ _) (one_slice _ _ _) ?c3 ?c4 ?c5 ?_)
      case c3 => unfold maxLen; omega
      case c4 => omega
      case c5 => simp; omega
      intro v' w12 hown hgrow _
      obtain ⟨A', c', rfl⟩ := own_form hown
      have hgz : w11.heap.size ≤ w12.heap.size := by have := hgrow.size; simp at this; omega
      obtain ⟨q1, q2, q3⟩ := prog_pushed HR.out HC.out hlw H8.out HPV.out hown hgrow
      have HA := Lib.hid q3
      clear hown hgrow HR HC H8 HPV q3
      go_wp2_with fail
      go_roundw
      case rel => exact ⟨k + 1, by omega, by go_num, _, _, by simp; exact hgz, by rw [HPS.out]; exact HA.out⟩
      case measure => simp [intOf]; omega
    · obtain rfl : k = cl := by omega
      obtain ⟨lim, v8, hlim, hrd⟩ := HST.out
      go_wp2_with fail
      exact HX.out v8 lim _ _ _ _ _ _ _ _ _ _ _ _ _ _ _ _ _ _ _ _ _ _ _ _ _ _ _ _ _ _ _ _ _ _ _ _ _ _ _ _ _ _ _ _ _ _ _ _ _ _ _ _ _ _ _ _ _ _ _ _ _ _ _ _ _ _ (Lib.hid hrd)
end Go.Proofs.Ytcicememljlafaa
