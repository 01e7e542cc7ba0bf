/- Walk: the text of a delta, by the reference. -/
import Derived.Test.YtcbhfhmpajamoaaDoorQ4
import Derived.Lib.AppendStr
namespace Go.Proofs.YtcbhfhmpajamoaaDoor
open Go.RowKit

/-- append(b, s...) at a step of a region that draws its order. -/
theorem step_append_string {P : Program} (w : World) {ops : Array Oper} {o : Oper} {a : Act} {K : Act → World → Prop} {Q : Exit → Act → World → Prop} {E : Prop} (hgd : o.guard = none) (sl x : Operand) (t u : TypeId)
    (ho : o.op = .call { callee := .builtin .append, args := #[sl, x], argTypes := #[t, u] })
    (base : Nat) (e : TypeId) (i : TypeInfo) (ht : P.underlying t = some (.slice e)) (hu : P.underlying u = some .string) (hi : P.info? e = some i) (hz : i.zero = some (.int .u8 0))
    (hsize : i.size = 1) (hby : i.bytes = 1)
    (v : Value) (n : Nat) (xs : List Value) (hs : a.eval sl = v) (hown : w.ownsRow base e 1 v n xs) (s : ByteArray) (hx : a.eval x = .string s)
    (h63 : n + s.size ≤ maxLen) (hbytes : n + s.size ≤ 140737488355328) (hbase : base ≤ w.heap.size)
    (h : ∀ v' w', w'.ownsRow base e 1 v' (n + s.size) (xs ++ Lib.strCells s) → w.grownBy w' v.ownBlock → K (a.put o.dst v') w') :
    if Region.wanted o (yielded ops a.tmps) = true then Oper.wp P o a w K Q else E := by
  have hw : Region.wanted o (yielded ops a.tmps) = true := by simp [Region.wanted, hgd]
  rw [if_pos hw]
  obtain ⟨v', w', hr, h2, h3, h4⟩ := Lib.run_append_own_string (P := P) w base t u o.type e i ht hu hi hz hsize hby v n xs hown s h63 hbytes hbase
  unfold Oper.wp execOp
  simp only [ho, resolve, invoke, builtin, Sem.run_bind, Sem.run_pure, Result.andThen_ok, List.map_toArray, List.map_cons, List.map_nil, hs, hx, hr]
  exact h v' w' h2 h3
theorem below_grew {B lim n : Nat} {w W w1 : World} {e : TypeId} {size : Nat} {v : Value} {vs : List Value} (h : Below B w W) (hl : B ≤ lim) (hB : B ≤ W.heap.size) (hown : W.ownsRow lim e size v n vs) (hg : W.grownBy w1 v.ownBlock) : Below B w w1 := by
  have hs := hg.size
  refine h.trans ⟨hg.os, hg.tape, hg.output, by omega, fun k hk => ?_⟩
  exact hg.block k (by omega) (fun e => by have := (World.ownsRow.lt hown k e.symm).1; omega)
/-- The bytes laid so far. -/
structure OutB (w W : World) (v : Value) (l : List Int) : Prop where
  own : W.ownsRow w.heap.size 5 1 v l.length (l.map (Value.int .u8))
  bel : Below w.heap.size w W
theorem OutB.below {w W W' : World} {v : Value} {l : List Int} (h : OutB w W v l) (hb : Below W.heap.size W W') : OutB w W' v l := ⟨own_grown h.own hb, below_then h.bel h.bel.size hb⟩
theorem OutB.grown {w W W' : World} {v v' : Value} {l l' : List Int} {O : Obj} {n : Nat} (h : OutB w W v l) (hg : (W.alloc O).grownBy W' v.ownBlock) (ho : W'.ownsRow w.heap.size 5 1 v' n ((l ++ l').map (Value.int .u8))) : OutB w W' v' (l ++ l') := by
  refine ⟨?_, below_row h.bel (Nat.le_refl _) h.bel.size h.own hg⟩
  have := ho.1
  rw [List.length_map, Nat.mul_one] at this
  rw [this]; exact ho
theorem OutB.grew {w W W' : World} {v v' : Value} {l l' : List Int} {n : Nat} (h : OutB w W v l) (hg : W.grownBy W' v.ownBlock) (ho : W'.ownsRow w.heap.size 5 1 v' n ((l ++ l').map (Value.int .u8))) : OutB w W' v' (l ++ l') := by
  refine ⟨?_, below_grew h.bel (Nat.le_refl _) h.bel.size h.own hg⟩
  have := ho.1
  rw [List.length_map, Nat.mul_one] at this
  rw [this]; exact ho
theorem OutB.form {w W : World} {v : Value} {l : List Int} (h : OutB w W v l) : ∃ A n c, v = .slice A n c ∧ Hid (n = l.length) := by
  obtain ⟨A, c, rfl⟩ := own_form h.own
  exact ⟨A, _, c, rfl, rfl⟩
theorem OutB.row {w W : World} {v : Value} {l : List Int} (h : OutB w W v l) {n : Nat} (hn : Hid (n = l.length)) : W.ownsRow w.heap.size 5 1 v n (l.map (Value.int .u8)) := hn.out ▸ h.own
theorem conv_out {w W : World} {n c : Nat} {A : Option Addr} {l : List Int} (hl : BL l) (h : OutB w W (.slice A n c) l) : (convert 75 9 (.slice A n c)).run Tryd.prog W = .ok (.string (bs l)) W := by
  by_cases h0 : 0 < l.length
  · exact conv_row hl h.own h0
  · have hl0 : l = [] := List.eq_nil_of_length_eq_zero (by omega)
    subst hl0
    have h1 := h.own.2
    rcases h1 with ⟨hv, _⟩ | ⟨g, cap, cur, hv, _⟩
    · cases hv; simp [convert, und5, und9, Tryd.underlying75, bs, Conv.bytesToString]
      rfl
    · cases hv
      have := run_convert_bytes_back (P := Tryd.prog) W 75 9 5 ⟨g, 0, none⟩ c [] Tryd.underlying75 und5 und9 (by intro j hj; simp at hj)
      simpa [bs] using this

set_option maxHeartbeats 0 in
set_option maxRecDepth 100000 in
theorem deltaTextR (A : Option Addr) (c : Nat) (ps : List PieceV) (w : World) (hP : PiecesAt w w.heap.size A ps) (hl : ps.length ≤ 20) (ht : ∀ p ∈ ps, p.text.size ≤ 1000) :
    Calls Tryd.prog 26 #[.slice A ps.length c] w (DeltaRes ps w) := by
  have HC := Lib.hid (checkR A c ps w hP (by omega) (fun p hp => by have := ht p hp; omega))
  by_cases h0 : chkD ps 0 0 = 0
  case neg =>
    have HR : Hid (∀ e w', (e = .returned (.tuple #[.string ⟨#[]⟩, .int .i64 (chkD ps 0 0)]) ∧ Below w.heap.size w w') → DeltaRes ps w e w') := fun e w' h => ⟨by rw [if_neg h0]; exact h.1, h.2⟩
    generalize chkD ps 0 0 = R at *
    generalize ps.length = n at *
    have hne : (R != 0) = true := by simpa using h0
    clear hP ht
    go_enter Tryd.func26, Tryd.ntmps26
    go_wp2_with fail
    refine HC.out.mono ?_
    rintro e w1 ⟨rfl, hb⟩
    have HB := Lib.hid hb
    clear hb
    go_wp2_with fail
    go_ret2
    exact HR.out _ _ ⟨rfl, HB.out⟩
  case pos =>
    have HR : Hid (∀ e w', (e = .returned (.tuple #[.string (bs (deltaL ps)), .int .i64 0]) ∧ Below w.heap.size w w') → DeltaRes ps w e w') := fun e w' h => ⟨by rw [if_pos h0]; exact h.1, h.2⟩
    have HALL := Lib.hid (chk_all ps 0 0 (by omega) (by omega) h0)
    have HTX := Lib.hid ht
    have HJT := Lib.hid (join_take noPiece pieceL ps)
    have HJL : Hid (∀ k, (joinL ((ps.take k).map pieceL)).length ≤ 60000) := fun k => by
      have := joinL_le ((ps.take k).map pieceL) 2001 (fun l hl' => by
        obtain ⟨p, hp, rfl⟩ := List.mem_map.1 hl'
        have hm := List.mem_of_mem_take hp
        exact pieceL_le ((chk_all ps 0 0 (by omega) (by omega) h0 p hm).1) ((chk_all ps 0 0 (by omega) (by omega) h0 p hm).2) (ht p hm))
      rw [List.length_map, List.length_take] at this
      have h2 : min k ps.length * (2001 + 1) ≤ 20 * 2002 := Nat.mul_le_mul (by omega) (by omega)
      omega
    have HDL : Hid (deltaL ps = joinL ((ps.take ps.length).map pieceL)) := by show _ = _; rw [List.take_length]; rfl
    have HDB : Hid (BL (deltaL ps)) := joinL_BL _ (fun l hl' => by obtain ⟨p, _, rfl⟩ := List.mem_map.1 hl'; exact pieceL_BL p)
    have HP := Lib.hid hP
    rw [h0] at HC
    clear hP ht h0
    generalize deltaL ps = DL at *
    generalize hn : ps.length = n at *
    have HN := Lib.hid hn
    clear hn
    have h00 : ((0 : Int) != 0) = false := by decide
    go_enter Tryd.func26, Tryd.ntmps26
    go_wp2_with fail
    refine HC.out.mono ?_
    rintro e w1 ⟨rfl, hb⟩
    have HB1 : Hid (OutB w w1 (.slice none 0 0) []) := ⟨World.ownsRow_nil _ _ _ _, hb⟩
    clear hb HC
    go_wp2_with fail
    go_loopw [5, 6] (fun v i wr => ∃ (k : Nat) (v' : Value), k ≤ n ∧ v = v' ∧ i = .int .i64 k ∧ Hid (OutB w wr v' (joinL ((ps.take k).map pieceL)))) (fun _ i _ => n - (intOf i).toNat)
    case atStart => exact ⟨0, _, Nat.zero_le _, rfl, rfl, HB1.out⟩
    case round =>
      obtain ⟨k, v', hk, rfl, rfl, HO⟩ := hrel
      clear HB1
      obtain ⟨i0, hi, hz0, hz1, hz2⟩ := info_parts u8_info
      by_cases hlt : k < n
      · have hki : (k : Int) < (n : Int) := by omega
        have hkl : k < ps.length := by rw [HN.out]; exact hlt
        obtain ⟨b, off, rfl, hb, hc⟩ := HP.out (by omega)
        have hmem := getD_mem noPiece ps k hkl
        have htx := HTX.out _ hmem
        have hall := HALL.out _ hmem
        have HJK := Lib.hid (HJT.out k (by first | exact hlt | exact hkl))
        have hjk := HJL.out k
        have HPC := Lib.hid (fun (W : World) (h : Below w.heap.size w W) => (hc k hkl).keep (h.block b hb))
        clear hc hkl hmem
        generalize ps.getD k noPiece = p at *
        generalize hJ : joinL ((ps.take k).map pieceL) = J at *
        have hJ0 : k = 0 → J = [] := fun h => by rw [← hJ, h]; rfl
        clear hJ
        obtain ⟨hok, hn1⟩ := hall
        have HPL : Hid (pieceL p = if p.kind = 2 then quoteL p.text else if p.kind = 3 then 45 :: decL p.n.toNat else 61 :: decL p.n.toNat) := rfl
        generalize pieceL p = PL at *
        obtain ⟨x0, x1, x2⟩ := p
        dsimp only at hn1 htx
        by_cases hk0 : k = 0
        case' pos =>
          have hkn : ¬ (0 : Int) < (k : Int) := by omega
          have HJP : Hid (joinL ((ps.take (k + 1)).map pieceL) = J ++ PL) := by
            show _ = _
            rw [HJK.out, if_pos hk0, hJ0 hk0]
          have hjj : J.length ≤ 70000 := by omega
          clear hk0 hJ0
          obtain ⟨AJ, jn, cJ, rfl, hjn⟩ := HO.out.form
          go_upto_region 10 with fail
          generalize wr = W at *
        case' neg =>
          have hkn : (0 : Int) < (k : Int) := by omega
          have HJP : Hid (joinL ((ps.take (k + 1)).map pieceL) = (J ++ [32]) ++ PL) := by
            show _ = _
            rw [HJK.out, if_neg hk0]
          have hjj : (J ++ [32]).length ≤ 70000 := by rw [List.length_append, List.length_singleton]; omega
          have hB := HO.out.bel.size
          clear hk0 hJ0
          obtain ⟨A', j', c', rfl, hj'⟩ := HO.out.form
          have hjl : j' ≤ 70000 := by have := hj'.out; omega
          go_upto_region 10 with (at_builtin; refine wpList_append_own _ rfl _ _ 75 rfl w.heap.size 5 i0 (.int .u8 0) 1 1 Tryd.underlying75 hi hz0 hz1 hz2 rfl (by decide) (.slice A' j' c') j' _ rfl ((HO.out.row hj').alloc _) ⟨wr.heap.size, 0, none⟩ 1 1 [.int .u8 32] rfl rfl (news_cells _ _ _) (by intro u hu; simp at hu; subst hu; rfl) (by unfold maxLen; omega) (by omega) (by simp; omega) ?_; intro v2 w2 hown hgrow _; (have HO2 := Lib.hid (HO.out.grown (l' := [32]) hgrow (by rw [List.map_append]; exact hown))); clear hown hgrow HO; obtain ⟨AJ, jn, cJ, rfl, hjn⟩ := HO2.out.form; have HO := HO2; clear HO2)
          generalize J ++ [32] = J at *
          generalize w2 = W at *
        all_goals
          obtain ⟨m0, m1, m2⟩ := HPC.out _ HO.out.bel
          have hjn' : jn ≤ 70000 := by have := hjn.out; omega
          have hB := HO.out.bel.size
          rcases hok with ⟨h1, h2, h3⟩ | ⟨h1 | h1, h2, h3⟩
          · dsimp only at h1 h2 h3
            subst h1
            have HPL2 : Hid (PL = 43 :: hexL (ints x2)) := HPL.out
            clear HPL hn1 h2 h3
            go_wp2_with (at_builtin; refine wpList_append_own _ rfl _ _ 75 rfl w.heap.size 5 i0 (.int .u8 0) 1 1 Tryd.underlying75 hi hz0 hz1 hz2 rfl (by decide) (.slice AJ jn cJ) jn _ rfl ((HO.out.row hjn).alloc _) ⟨W.heap.size, 0, none⟩ 1 1 [.int .u8 43] rfl rfl (news_cells _ _ _) (by intro u hu; simp at hu; subst hu; rfl) (by unfold maxLen; omega) (by omega) (by simp; omega) ?_; intro v2 w2 hown hgrow _; (have HO2 := Lib.hid (HO.out.grown (l' := [43]) hgrow (by rw [List.map_append]; exact hown))); clear hown hgrow HO; obtain ⟨_, _, n2⟩ := HPC.out _ HO2.out.bel)
            have HO3 : Hid (OutB w w2 v2 (J ++ 43 :: hexL ((ints x2).take 0))) := HO2.out
            clear HO2 m0 m1 m2 n2
            go_loopw [5, 7] (fun v i W3 => ∃ (j : Nat) (v' : Value), j ≤ x2.size ∧ v = v' ∧ i = .int .i64 j ∧ Hid (OutB w W3 v' (J ++ 43 :: hexL ((ints x2).take j)))) (fun _ i _ => x2.size - (intOf i).toNat)
            case atStart => exact ⟨0, _, Nat.zero_le _, rfl, rfl, HO3.out⟩
            case round =>
              obtain ⟨j, v', hj, rfl, rfl, HD⟩ := hrel
              clear HO3
              have hlen : (J ++ 43 :: hexL ((ints x2).take j)).length ≤ 80000 := by
                rw [List.length_append, List.length_cons, hexL_len, List.length_take, ints_len]; omega
              obtain ⟨_, _, n2⟩ := HPC.out _ HD.out.bel
              have hB3 := HD.out.bel.size
              have n2a : ∀ o, (wr.alloc o).cell? ⟨b, off + k * 3 + 2, none⟩ = some (.string x2) := fun o => (HPC.out _ (HD.out.bel.alloc HD.out.bel.size o)).c2
              by_cases hjl : j < x2.size
              · have hji : (j : Int) < (x2.size : Int) := by omega
                have hb8 := UInt8.toNat_lt (x2[j]'hjl)
                have HTK := Lib.hid (take_snoc (ints_at x2 j hjl))
                generalize hx8 : (x2[j]'hjl).toNat = x8 at *
                have e9 : ((x8 : Int).tmod 16) = (x8 : Int) % 16 := Int.tmod_eq_emod_of_nonneg (by omega)
                have e8 : IntKind.u8.wrap ((x8 : Int) / 16) = (x8 : Int) / 16 := wraps_u8 _ (by omega) (by omega)
                have HH1 := Lib.hid (fun V : World => hexFn (x8 / 16) (by omega) V)
                have HH2 := Lib.hid (fun V : World => hexFn (x8 % 16) (by omega) V)
                have q1 : (((x8 / 16 : Nat)) : Int) = (x8 : Int) / 16 := by omega
                have q2 : (((x8 % 16 : Nat)) : Int) = (x8 : Int) % 16 := by omega
                rw [q1] at HH1
                rw [q2] at HH2
                have HX : Hid (J ++ 43 :: hexL ((ints x2).take (j + 1)) = (J ++ 43 :: hexL ((ints x2).take j)) ++ [hxd (x8 / 16), hxd (x8 % 16)]) := by
                  show _ = _
                  rw [HTK.out, hexL_snoc]
                  simp
                clear HTK q1 q2
                generalize J ++ 43 :: hexL ((ints x2).take j) = L at *
                obtain ⟨A3, ln, c3, rfl, hln⟩ := HD.out.form
                have hln' : ln ≤ 80000 := by have := hln.out; omega
                go_upto_region 15 with fail
                go_region_held3 (fun w' => w'.cell? ⟨b, off + k * 3 + 2, none⟩ = some (.string x2))
                  (first
                    | (with_reducible assumption)
                    | exact n2
                    | exact n2a _
                    | exact (HPC.out _ (OutB.bel (Hid.out (by assumption)))).c2)
                  (first
                    | (go_at_call 37; with_reducible refine (HH1.out _).mono ?_; rintro e wz ⟨rfl, rfl⟩)
                    | (go_at_call 37; with_reducible refine (HH2.out _).mono ?_; rintro e wz ⟨rfl, rfl⟩)
                    | (refine step_append_lies _ rfl (.tmp 42) (.tmp 61) 75 rfl w.heap.size 5 i0 (.int .u8 0) 1 1 Tryd.underlying75 hi hz0 hz1 hz2 rfl (by decide) (.slice A3 ln c3) ln _ (by simp [Act.eval, Act.put]) (own_drew ((HD.out.row hln).alloc _)) _ 2 2 [.int .u8 (hxd (x8 / 16)), .int .u8 (hxd (x8 % 16))] (by simp [Act.eval, Act.put]) rfl (news_cells _ _ _) (by intro u hu; simp at hu; rcases hu with rfl | rfl <;> rfl) (by omega) (by unfold maxLen; omega) (by omega) (by simp; omega) _ rfl ?_; intro g cap w11 hown hgrow _ _; (have HD2 := Lib.hid (HD.out.grown (l' := [hxd (x8 / 16), hxd (x8 % 16)]) (grown_undrew hgrow) (by rw [List.map_append]; exact hown))); clear hown hgrow))

                all_goals
                  rw [← HX.out] at HD2
                  go_wp2_with fail
                  go_roundw
                  case rel => exact ⟨j + 1, _, by omega, rfl, by go_num, HD2.out⟩
                  case measure => simp [intOf]; omega
              · obtain rfl : j = x2.size := by omega
                have HF := HD
                rw [List.take_of_length_le (by rw [ints_len]; omega), ← HPL2.out, ← HJP.out] at HF
                clear HD
                go_wp2_with fail
                go_roundw
                case rel => exact ⟨k + 1, _, by omega, rfl, by go_num, HF.out⟩
                case measure => simp [intOf]; omega
          · dsimp only at h1 h2 h3
            subst h1
            have HPL2 : Hid (PL = 61 :: decL x1.toNat) := HPL.out
            have HDG := Lib.hid (fun V : World => digitsFn x1.toNat (by omega) V)
            rw [Int.toNat_of_nonneg (by omega)] at HDG
            have hdz : (bs (decL x1.toNat)).size ≤ 10 := by rw [bs_size]; exact dec_le x1 (by omega) (by omega)
            have HSC : Hid (Lib.strCells (bs (decL x1.toNat)) = (decL x1.toNat).map (Value.int .u8)) := by show _ = _; rw [strCells_ints, ints_bs (decL_BL _)]
            have HF : Hid (J ++ [61] ++ decL x1.toNat = joinL ((ps.take (k + 1)).map pieceL)) := by
              show _ = _
              rw [HJP.out, HPL2.out, List.append_assoc]; rfl
            have hjm : (J ++ [61]).length = J.length + 1 := by simp
            clear HPL h3 HPL2 HJP
            obtain ⟨_, m1a, _⟩ := HPC.out _ (HO.out.bel.alloc HO.out.bel.size (.cells #[.int .u8 61] 5))
            generalize decL x1.toNat = dl at *
            go_upto_region 17 with fail
            go_region_law (first
              | (refine step_append_lies _ rfl (.tmp 65) (.tmp 66) 75 rfl w.heap.size 5 i0 (.int .u8 0) 1 1 Tryd.underlying75 hi hz0 hz1 hz2 rfl (by decide) (.slice AJ jn cJ) jn _ (by simp [Act.eval, Act.put]) (own_drew ((HO.out.row hjn).alloc _)) _ 1 1 [.int .u8 61] (by simp [Act.eval, Act.put]) rfl (news_cells _ _ _) (by intro u hu; simp at hu; subst hu; rfl) (by omega) (by unfold maxLen; omega) (by omega) (by simp; omega) _ rfl ?_; intro g cap w11 hown hgrow _ _; (have HO2 := Lib.hid (HO.out.grown (l' := [61]) (grown_undrew hgrow) (by rw [List.map_append]; exact hown))); clear hown hgrow; obtain ⟨_, n1, _⟩ := HPC.out _ HO2.out.bel)
              | (go_simp; go_at_call 36; refine (HDG.out _).mono ?_; rintro e w12 ⟨rfl, hb12⟩; (have HO3 := Lib.hid (HO2.out.below hb12)); clear hb12)
              | (refine step_append_string _ rfl (.tmp 67) (.tmp 73) 75 9 rfl w.heap.size 5 i0 Tryd.underlying75 und9 hi hz0 hz1 hz2 _ _ _ (by simp [Act.eval, Act.put]) HO3.out.own (bs dl) (by simp [Act.eval, Act.put]) (by unfold maxLen; omega) (by omega) HO3.out.bel.size ?_; intro v4 w13 hown hgrow; (have HO4 := Lib.hid (HO3.out.grew (l' := dl) hgrow (by rw [List.map_append, ← HSC.out]; exact hown))); clear hown hgrow))
            all_goals
              rw [HF.out] at HO4
              go_wp2_with fail
              go_roundw
              case rel => exact ⟨k + 1, _, by omega, rfl, by go_num, HO4.out⟩
              case measure => simp [intOf]; omega
          · dsimp only at h1 h2 h3
            subst h1
            have HPL2 : Hid (PL = 45 :: decL x1.toNat) := HPL.out
            have HDG := Lib.hid (fun V : World => digitsFn x1.toNat (by omega) V)
            rw [Int.toNat_of_nonneg (by omega)] at HDG
            have hdz : (bs (decL x1.toNat)).size ≤ 10 := by rw [bs_size]; exact dec_le x1 (by omega) (by omega)
            have HSC : Hid (Lib.strCells (bs (decL x1.toNat)) = (decL x1.toNat).map (Value.int .u8)) := by show _ = _; rw [strCells_ints, ints_bs (decL_BL _)]
            have HF : Hid (J ++ [45] ++ decL x1.toNat = joinL ((ps.take (k + 1)).map pieceL)) := by
              show _ = _
              rw [HJP.out, HPL2.out, List.append_assoc]; rfl
            have hjm : (J ++ [45]).length = J.length + 1 := by simp
            clear HPL h3 HPL2 HJP
            obtain ⟨_, m1a, _⟩ := HPC.out _ (HO.out.bel.alloc HO.out.bel.size (.cells #[.int .u8 45] 5))
            generalize decL x1.toNat = dl at *
            go_upto_region 19 with fail
            go_region_law (first
              | (refine step_append_lies _ rfl (.tmp 77) (.tmp 78) 75 rfl w.heap.size 5 i0 (.int .u8 0) 1 1 Tryd.underlying75 hi hz0 hz1 hz2 rfl (by decide) (.slice AJ jn cJ) jn _ (by simp [Act.eval, Act.put]) (own_drew ((HO.out.row hjn).alloc _)) _ 1 1 [.int .u8 45] (by simp [Act.eval, Act.put]) rfl (news_cells _ _ _) (by intro u hu; simp at hu; subst hu; rfl) (by omega) (by unfold maxLen; omega) (by omega) (by simp; omega) _ rfl ?_; intro g cap w11 hown hgrow _ _; (have HO2 := Lib.hid (HO.out.grown (l' := [45]) (grown_undrew hgrow) (by rw [List.map_append]; exact hown))); clear hown hgrow; obtain ⟨_, n1, _⟩ := HPC.out _ HO2.out.bel)
              | (go_simp; go_at_call 36; refine (HDG.out _).mono ?_; rintro e w12 ⟨rfl, hb12⟩; (have HO3 := Lib.hid (HO2.out.below hb12)); clear hb12)
              | (refine step_append_string _ rfl (.tmp 79) (.tmp 85) 75 9 rfl w.heap.size 5 i0 Tryd.underlying75 und9 hi hz0 hz1 hz2 _ _ _ (by simp [Act.eval, Act.put]) HO3.out.own (bs dl) (by simp [Act.eval, Act.put]) (by unfold maxLen; omega) (by omega) HO3.out.bel.size ?_; intro v4 w13 hown hgrow; (have HO4 := Lib.hid (HO3.out.grew (l' := dl) hgrow (by rw [List.map_append, ← HSC.out]; exact hown))); clear hown hgrow))
            all_goals
              rw [HF.out] at HO4
              go_wp2_with fail
              go_roundw
              case rel => exact ⟨k + 1, _, by omega, rfl, by go_num, HO4.out⟩
              case measure => simp [intOf]; omega
      · obtain rfl : k = n := by omega
        rw [← HDL.out] at HO
        obtain ⟨A', c', rfl⟩ := own_form HO.out.own
        have hcv := conv_out HDB.out HO.out
        go_wp2_with fail
        go_ret2
        exact HR.out _ _ ⟨rfl, HO.out.bel⟩
end Go.Proofs.YtcbhfhmpajamoaaDoor
