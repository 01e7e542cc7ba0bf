/- Walk: text.Op. -/
import Derived.Test.YtcbhfhmpajamoaaDoorO4
import Derived.Lib.OthersKept
namespace Go.Proofs.YtcbhfhmpajamoaaDoor
open Go.RowKit

def fieldL (o : OpV) (f : Int) : List Int :=
  if f = 115 then decL o.slot.toNat else if f = 97 then decL o.pos.toNat else if f = 110 then decL o.num.toNat else if f = 105 then decL o.id.toNat else if f = 103 then decL o.grav.toNat else quoteL o.text
def opL (o : OpV) : List Int := joinL (nameL o.kind :: (lettersL o.kind).map (fieldL o))
structure OpTy (o : OpV) : Prop where
  kind : 0 ≤ o.kind ∧ o.kind ≤ 255
  id : 0 ≤ o.id ∧ o.id ≤ 4294967295
  grav : 0 ≤ o.grav ∧ o.grav ≤ 255
def OpRes (o : OpV) (w : World) (e : Ending) (w' : World) : Prop :=
  (if plainB o then e = .returned (.tuple #[.string (bs (opL o)), .int .i64 0]) else e = .returned (.tuple #[.string ⟨#[]⟩, .int .i64 2])) ∧ Below w.heap.size w w'
theorem range_getD {α : Type} (d : α) (l : List α) : (List.range l.length).map (fun i => l.getD i d) = l := by
  apply List.ext_getElem?
  intro i
  rw [List.getElem?_map]
  by_cases h : i < l.length
  · rw [List.getElem?_range h]
    simp [List.getD_eq_getElem?_getD, h]
  · rw [List.getElem?_eq_none (by simpa using h), List.getElem?_eq_none (by simpa using h)]; rfl
theorem arr_range (a : Array Value) (n : Nat) (h : a.size = n) : a = ((List.range n).map fun i => a.getD i undef).toArray := by
  subst h
  apply Array.ext'
  rw [List.toList_toArray]
  have := range_getD undef a.toList
  rw [Array.length_toList] at this
  rw [← this]
  congr 1
  · funext i; simp [Array.getD_eq_getD_getElem?, List.getD_eq_getElem?_getD]
theorem letters_bd {k : Int} (h1 : 1 ≤ k) (h2 : k ≤ 16) : (lettersL k).length ≤ 3 ∧ ∀ x ∈ lettersL k, x = 115 ∨ x = 97 ∨ x = 110 ∨ x = 105 ∨ x = 103 ∨ x = 116 := by
  rcases kind_cases h1 h2 with rfl | rfl | rfl | rfl | rfl | rfl | rfl | rfl | rfl | rfl | rfl | rfl | rfl | rfl | rfl | rfl <;> exact ⟨by decide, by decide⟩
theorem ints_bs {l : List Int} (h : BL l) : ints (bs l) = l := by
  show ((l.map fun i => UInt8.ofNat i.toNat).toArray.toList.map fun b => (b.toNat : Int)) = l
  rw [List.toList_toArray, List.map_map]
  conv => rhs; rw [← List.map_id l]
  refine List.map_congr_left fun x hx => ?_
  have := h x hx
  show (((UInt8.ofNat x.toNat).toNat : Nat) : Int) = x
  rw [UInt8.toNat_ofNat']
  omega
theorem bs_at {l : List Int} (h : BL l) (k : Nat) (hk : k < (bs l).size) : (((bs l)[k]'hk).toNat : Int) = l.getD k 0 := by
  have h1 := ints_at (bs l) k hk
  rw [ints_bs h] at h1
  rw [List.getD_eq_getElem?_getD, h1]; rfl
theorem own_keep {w w' : World} {B n : Nat} {e : TypeId} {sz : Nat} {v : Value} {l : List Value} (h : w.ownsRow B e sz v n l) (hk : ∀ (q : Nat) cs t fz, w.heap[q]? = some (Obj.cells cs t fz) → w'.heap[q]? = w.heap[q]?) : w'.ownsRow B e sz v n l := by
  obtain ⟨h1, h2⟩ := h
  refine ⟨h1, ?_⟩
  rcases h2 with h2 | ⟨g, cap, cur, a, b, c, d⟩
  · exact .inl h2
  · exact .inr ⟨g, cap, cur, a, b, (hk g _ _ _ c).trans c, d⟩
theorem own_iter {w : World} {B n : Nat} {e : TypeId} {sz : Nat} {v : Value} {l : List Value} (h : w.ownsRow B e sz v n l) {k : Nat} {s : ByteArray} {p p' : Nat} (hk : w.heap[k]? = some (.stringIter s p)) : (w.iterAt k s p').ownsRow B e sz v n l :=
  own_keep h fun q cs t fz hq => Lib.iterAt_other _ _ _ _ _ (fun hh => by rw [hh, hk] at hq; cases hq)
theorem fieldL_le (o : OpV) (f : Int) (hp : PlainOp o) (ht : OpTy o) : (fieldL o f).length ≤ 1000 := by
  have hd : ∀ x : Int, 0 ≤ x → x ≤ 9999999999 → (decL x.toNat).length ≤ 1000 := fun x h0 h1 => by
    have := numL_le x h1
    unfold numL at this
    rw [if_neg (by omega)] at this
    omega
  have h1 := hp.slot; have h2 := hp.pos; have h3 := hp.num; have h4 := ht.id; have h5 := ht.grav; have h6 := hp.text
  unfold fieldL
  repeat' split
  · exact hd _ h1.1 (by omega)
  · exact hd _ h2.1 (by omega)
  · exact hd _ h3.1 (by omega)
  · exact hd _ h4.1 (by omega)
  · exact hd _ h5.1 (by omega)
  · rw [quoteL_len]; omega
theorem nameL_le {k : Int} (h1 : 1 ≤ k) (h2 : k ≤ 16) : (nameL k).length ≤ 1000 := by
  rcases kind_cases h1 h2 with rfl | rfl | rfl | rfl | rfl | rfl | rfl | rfl | rfl | rfl | rfl | rfl | rfl | rfl | rfl | rfl <;> decide
theorem own_elem {w : World} {base : Nat} {e : TypeId} {size n : Nat} {v : Value} {xs : List Value} (h : w.ownsRow base e size v n xs) {q : Nat} (hq : v.ownBlock = some q) : ElemT w q e := by
  rcases h.2 with ⟨rfl, _⟩ | ⟨g, cap, cur, rfl, _, hh, _⟩
  · simp [Value.ownBlock] at hq
  · simp [Value.ownBlock] at hq
    subst hq
    exact ⟨cur, hh⟩
set_option maxHeartbeats 0 in
set_option maxRecDepth 100000 in
theorem textOp (o : OpV) (w : World) (ht : OpTy o) (hT : Tab w) : Calls Tryd.prog 6 #[opVal o] w (OpRes o w) := by
  have HPL := Lib.hid (fun W : World => textPlain o W ht.kind.1)
  have HB := Lib.hid (fun ob : Obj => below_box w ob)
  have HTY := Lib.hid ht
  have HT := Lib.hid hT
  have HN := Lib.hid (opAt_new w o.kind o.slot o.pos o.num o.id o.grav o.text)
  by_cases hp : PlainOp o
  · have HR : Hid (∀ e w', (e = .returned (.tuple #[.string (bs (opL o)), .int .i64 0]) ∧ Below w.heap.size w w') → OpRes o w e w') := fun e w' h => ⟨by rw [plainB_yes hp]; exact h.1, h.2⟩
    have HPO := Lib.hid hp
    have k1 := hp.kind.1
    have k2 := hp.kind.2
    rw [plainB_yes hp] at HPL
    have HWD := Lib.hid (fun W : World => wordsFn o.kind k1 k2 W)
    have HCT := Lib.hid (fun W : World => cutFn o.kind k1 k2 W)
    unfold CutRes at HCT
    have HLB := Lib.hid (letters_bd k1 k2)
    have HFL := Lib.hid (fun f => fieldL_le o f hp ht)
    have HNL := Lib.hid (nameL_le k1 k2)
    have HOL : Hid (opL o = joinL (nameL o.kind :: (lettersL o.kind).map (fieldL o))) := rfl
    generalize hfl : fieldL o = FL at *
    have HFD := Lib.hid hfl
    generalize opL o = OL at *
    generalize lettersL o.kind = LS at *
    generalize nameL o.kind = NM at *
    generalize wordS o.kind = WS at *
    clear hp hfl ht hT
    obtain ⟨x0, x1, x2, x3, x4, x5, x6⟩ := o
    dsimp only at HN
    go_enter Tryd.func6, Tryd.ntmps6
    go_wp2_with fail
    refine (HPL.out _).mono ?_
    rintro e w1 ⟨rfl, hb⟩
    have HB1 := Lib.hid (below_then (HB.out _) (by simp) hb)
    have HO1 := Lib.hid (HN.out.keep (hb.block w.heap.size (by simp)))
    obtain ⟨m0, m1, m2, m3, m4, m5, m6⟩ := HO1.out
    simp only [Nat.zero_add] at m0 m1 m2 m3 m4 m5 m6
    clear hb HB HN HPL m1 m2 m3 m4 m5 m6
    go_wp2_with fail
    refine (HWD.out _).mono ?_
    rintro e wx ⟨rfl, rfl⟩
    go_wp2_with fail
    refine (HCT.out _).mono ?_
    rintro e w2 ⟨rfl, nd, rfl⟩
    have HB2 := Lib.hid (below_drewN HB1.out nd)
    have HO2 : Hid (OpAt (wx.drewN nd) w.heap.size 0 _) := HO1.out.keep rfl
    clear HB1 HO1 HWD HCT m0
    generalize wx.drewN nd = W at *
    have HIT : Hid (((W.alloc (.cells #[.string (bs NM)] 9)).iter (bs LS) 0).heap[W.heap.size + 1]? = some (.stringIter (bs LS) 0)) := by
      have := World.iter_heap (W.alloc (.cells #[.string (bs NM)] 9)) (bs LS) 0
      rw [show (W.alloc (.cells #[.string (bs NM)] 9)).heap.size = W.heap.size + 1 from by simp] at this
      exact this
    have HOW : Hid (((W.alloc (.cells #[.string (bs NM)] 9)).iter (bs LS) 0).ownsRow W.heap.size 9 1 (.slice (some ⟨W.heap.size, 0, none⟩) 1 1) 1 (strs [NM])) :=
      (World.ownsRow_lit (base := W.heap.size) (e := 9) (size := 1) W #[.string (bs NM)] 1 (Nat.le_refl _) (by unfold maxLen; omega) rfl).alloc _
    have HB3 : Hid (Below W.heap.size W ((W.alloc (.cells #[.string (bs NM)] 9)).iter (bs LS) 0)) := (below_box W _).alloc (by simp) _
    go_wp2_with fail
    generalize hv0 : (Value.slice (some { block := W.heap.size, off := 0 }) 1 1) = v0 at *
    generalize hW0 : (W.alloc (.cells #[.string (bs NM)] 9)).iter (bs LS) 0 = W0 at *
    clear hv0 hW0
    go_loopw [7] (fun v wr => ∃ (j : Nat) (v' : Value), j ≤ LS.length ∧ v = v' ∧ Hid (wr.heap[W.heap.size + 1]? = some (.stringIter (bs LS) j)) ∧ Hid (wr.ownsRow W.heap.size 9 1 v' (j + 1) (strs (NM :: (LS.take j).map FL))) ∧ Hid (Below W.heap.size W wr)) (fun _ wr => LS.length - wr.iterPos (W.heap.size + 1))
    case atStart => exact ⟨0, _, Nat.zero_le _, rfl, HIT.out, HOW.out, HB3.out⟩
    case round =>
      obtain ⟨j, v', hj, rfl, HI, HV, HW⟩ := hrel
      clear HIT HOW HB3
      have HPOS := Lib.hid (iterPos_of HI.out)
      by_cases hlt : j < LS.length
      · have hjs : j < (bs LS).size := by rw [bs_size]; exact hlt
        have hL := HLB.out.2 _ (getD_mem 0 LS j hlt)
        have hBL : BL LS := fun x hx => by rcases HLB.out.2 x hx with rfl | rfl | rfl | rfl | rfl | rfl <;> omega
        have hat := bs_at hBL j hjs
        have hnx := fun ty => Lib.run_next_ascii_at (P := Tryd.prog) wr (W.heap.size + 1) (bs LS) j ty HI.out hjs (by omega)
        have HTK := Lib.hid (take_snoc (getD_at 0 LS j hlt))
        rw [hat] at hnx
        clear hat hBL
        have HI1 := Lib.hid (Lib.iterAt_heap wr (W.heap.size + 1) (bs LS) j (j + 1) HI.out)
        have HV1 := Lib.hid (own_iter (p' := j + 1) HV.out HI.out)
        have HW1 : Hid (Below W.heap.size W (wr.iterAt (W.heap.size + 1) (bs LS) (j + 1)).drew) := below_drewN (Lib.below_iterAt HW.out (by omega : W.heap.size ≤ W.heap.size + 1) (bs LS) (j + 1)) 1
        generalize LS.getD j 0 = f at *
        go_upto_region 8 with fail
        refine wp_region_any (by kernel_rfl) ?_
        refine region8 ⟨_, u7, j + 1, strs (NM :: (LS.take j).map FL), W.heap.size, w.heap.size, ⟨x0, x1, x2, x3, x4, x5, x6⟩, fun y => bs (FL y), f, (wr.iterAt (W.heap.size + 1) (bs LS) (j + 1)).drew⟩ ?_ ?_
        · refine ⟨rfl, rfl, rfl, rfl, ?_, ?_, HV1.out, HW1.out.size, hL, HPO.out, ⟨HTY.out.id.1, HTY.out.id.2, HTY.out.grav.1, HTY.out.grav.2⟩, ?_, ?_, ?_, ?_, ?_, ?_, ?_⟩
          · exact HO2.out.keep (HW1.out.block _ (World.block_lt_of_cell? _ _ HO2.out.c0))
          · exact HT.out.below (below_then HB2.out HB2.out.size HW1.out)
          · show bs (FL 115) = bs (decL x1.toNat); rw [← HFD.out]; rfl
          · show bs (FL 97) = bs (decL x2.toNat); rw [← HFD.out]; rfl
          · show bs (FL 110) = bs (decL x3.toNat); rw [← HFD.out]; rfl
          · show bs (FL 105) = bs (decL x4.toNat); rw [← HFD.out]; rfl
          · show bs (FL 103) = bs (decL x5.toNat); rw [← HFD.out]; rfl
          · show bs (FL 116) = bs (quoteL x6); rw [← HFD.out]; rfl
          · show j + 1 ≤ 1000; have := HLB.out.1; omega
        · intro l a w2 hall hi
          obtain ⟨tm, df⟩ := a
          have hdf := hi.df
          dsimp only at hdf
          subst hdf
          have htm := arr_range tm 57 hi.sz
          have h7 : tm.getD 7 undef = tm.getD 54 undef := hi.fin (hall 33 (by omega))
          have t0 : tm.getD 0 undef = _ := hi.old 0 (by omega) (by omega)
          have t1 : tm.getD 1 undef = _ := hi.old 1 (by omega) (by omega)
          have t2 : tm.getD 2 undef = _ := hi.old 2 (by omega) (by omega)
          have t3 : tm.getD 3 undef = _ := hi.old 3 (by omega) (by omega)
          have t4 : tm.getD 4 undef = _ := hi.old 4 (by omega) (by omega)
          have t5 : tm.getD 5 undef = _ := hi.old 5 (by omega) (by omega)
          have t6 : tm.getD 6 undef = _ := hi.old 6 (by omega) (by omega)
          have t8 : tm.getD 8 undef = _ := hi.old 8 (by omega) (by omega)
          have t9 : tm.getD 9 undef = _ := hi.old 9 (by omega) (by omega)
          have t10 : tm.getD 10 undef = _ := hi.old 10 (by omega) (by omega)
          have t11 : tm.getD 11 undef = _ := hi.old 11 (by omega) (by omega)
          have t12 : tm.getD 12 undef = _ := hi.old 12 (by omega) (by omega)
          have t13 : tm.getD 13 undef = _ := hi.old 13 (by omega) (by omega)
          have t14 : tm.getD 14 undef = _ := hi.old 14 (by omega) (by omega)
          have t15 : tm.getD 15 undef = _ := hi.old 15 (by omega) (by omega)
          have t16 : tm.getD 16 undef = _ := hi.old 16 (by omega) (by omega)
          have t17 : tm.getD 17 undef = _ := hi.old 17 (by omega) (by omega)
          have t18 : tm.getD 18 undef = _ := hi.old 18 (by omega) (by omega)
          have t19 : tm.getD 19 undef = _ := hi.old 19 (by omega) (by omega)
          have t20 : tm.getD 20 undef = _ := hi.old 20 (by omega) (by omega)
          have t21 : tm.getD 21 undef = _ := hi.old 21 (by omega) (by omega)
          have t22 : tm.getD 22 undef = _ := hi.old 22 (by omega) (by omega)
          have t23 : tm.getD 23 undef = _ := hi.old 23 (by omega) (by omega)
          have t24 : tm.getD 24 undef = _ := hi.old 24 (by omega) (by omega)
          have t25 : tm.getD 25 undef = _ := hi.old 25 (by omega) (by omega)
          have t26 : tm.getD 26 undef = _ := hi.old 26 (by omega) (by omega)
          have t27 : tm.getD 27 undef = _ := hi.old 27 (by omega) (by omega)
          have t55 : tm.getD 55 undef = _ := hi.new 55 (by omega)
          have t56 : tm.getD 56 undef = _ := hi.new 56 (by omega)
          simp only [Array.getD_eq_getD_getElem?, List.getElem?_toArray, List.getElem?_cons_succ, List.getElem?_cons_zero, Option.getD_some] at t0 t1 t2 t3 t4 t5 t6 t8 t9 t10 t11 t12 t13 t14 t15 t16 t17 t18 t19 t20 t21 t22 t23 t24 t25 t26 t27 t55 t56
          obtain ⟨hown, wm, hbm, hgm⟩ := hi.post (hall 32 (by omega))
          dsimp only at hown hbm hgm
          have hsm := hbm.size
          have hne : ∀ q, u7.ownBlock = some q → W.heap.size ≤ q ∧ ElemT wr q 9 := fun q hq => ⟨(World.ownsRow.lt HV.out q hq).1, own_elem HV.out hq⟩
          have HI2 : Hid (w2.heap[W.heap.size + 1]? = some (.stringIter (bs LS) (j + 1))) := by
            have hlt1 := heap_lt HI1.out
            show _ = _
            rw [hgm.block _ (Nat.lt_of_lt_of_le hlt1 hsm) ?_, hbm.block _ hlt1]
            · exact HI1.out
            · intro hh
              obtain ⟨cs, hcs⟩ := (hne _ hh.symm).2
              rw [HI.out] at hcs; cases hcs
          have HW2 : Hid (Below W.heap.size W w2) := by
            have h1 : Below W.heap.size W wm := below_then HW1.out HW1.out.size hbm
            exact h1.trans ⟨hgm.os, hgm.tape, hgm.output, hgm.size, fun q hq => hgm.block q (by have := h1.size; omega) (fun hh => by have := (hne q hh.symm).1; omega)⟩
          have HV2 : Hid (w2.ownsRow W.heap.size 9 1 (tm.getD 54 undef) (j + 1 + 1) (strs (NM :: (LS.take (j + 1)).map FL))) := by
            show World.ownsRow _ _ _ _ _ _ _
            rw [HTK.out, List.map_append, List.map_singleton, ← List.cons_append, strs_snoc]
            exact hown
          clear hown hbm hgm hsm hi hall HI HV HW HI1 HV1 HW1 hnx hne
          have htm' : tm = List.toArray [tm.getD 0 undef, tm.getD 1 undef, tm.getD 2 undef, tm.getD 3 undef, tm.getD 4 undef, tm.getD 5 undef, tm.getD 6 undef, tm.getD 7 undef, tm.getD 8 undef, tm.getD 9 undef, tm.getD 10 undef, tm.getD 11 undef, tm.getD 12 undef, tm.getD 13 undef, tm.getD 14 undef, tm.getD 15 undef, tm.getD 16 undef, tm.getD 17 undef, tm.getD 18 undef, tm.getD 19 undef, tm.getD 20 undef, tm.getD 21 undef, tm.getD 22 undef, tm.getD 23 undef, tm.getD 24 undef, tm.getD 25 undef, tm.getD 26 undef, tm.getD 27 undef, tm.getD 28 undef, tm.getD 29 undef, tm.getD 30 undef, tm.getD 31 undef, tm.getD 32 undef, tm.getD 33 undef, tm.getD 34 undef, tm.getD 35 undef, tm.getD 36 undef, tm.getD 37 undef, tm.getD 38 undef, tm.getD 39 undef, tm.getD 40 undef, tm.getD 41 undef, tm.getD 42 undef, tm.getD 43 undef, tm.getD 44 undef, tm.getD 45 undef, tm.getD 46 undef, tm.getD 47 undef, tm.getD 48 undef, tm.getD 49 undef, tm.getD 50 undef, tm.getD 51 undef, tm.getD 52 undef, tm.getD 53 undef, tm.getD 54 undef, tm.getD 55 undef, tm.getD 56 undef] := htm
          obtain ⟨T, hT⟩ : ∃ T, T = tm := ⟨tm, rfl⟩
          rw [← hT]
          rw [htm'] at hT
          simp only [Array.getD_eq_getD_getElem?] at hT h7 HV2
          rw [h7, t0, t1, t2, t3, t4, t5, t6, t8, t9, t10, t11, t12, t13, t14, t15, t16, t17, t18, t19, t20, t21, t22, t23, t24, t25, t26, t27, t55, t56] at hT
          clear htm htm' h7 t0 t1 t2 t3 t4 t5 t6 t8 t9 t10 t11 t12 t13 t14 t15 t16 t17 t18 t19 t20 t21 t22 t23 t24 t25 t26 t27 t55 t56
          generalize tm[28]?.getD undef = z28 at *
          generalize tm[29]?.getD undef = z29 at *
          generalize tm[30]?.getD undef = z30 at *
          generalize tm[31]?.getD undef = z31 at *
          generalize tm[32]?.getD undef = z32 at *
          generalize tm[33]?.getD undef = z33 at *
          generalize tm[34]?.getD undef = z34 at *
          generalize tm[35]?.getD undef = z35 at *
          generalize tm[36]?.getD undef = z36 at *
          generalize tm[37]?.getD undef = z37 at *
          generalize tm[38]?.getD undef = z38 at *
          generalize tm[39]?.getD undef = z39 at *
          generalize tm[40]?.getD undef = z40 at *
          generalize tm[41]?.getD undef = z41 at *
          generalize tm[42]?.getD undef = z42 at *
          generalize tm[43]?.getD undef = z43 at *
          generalize tm[44]?.getD undef = z44 at *
          generalize tm[45]?.getD undef = z45 at *
          generalize tm[46]?.getD undef = z46 at *
          generalize tm[47]?.getD undef = z47 at *
          generalize tm[48]?.getD undef = z48 at *
          generalize tm[49]?.getD undef = z49 at *
          generalize tm[50]?.getD undef = z50 at *
          generalize tm[51]?.getD undef = z51 at *
          generalize tm[52]?.getD undef = z52 at *
          generalize tm[53]?.getD undef = z53 at *
          generalize tm[54]?.getD undef = z54 at *
          subst hT
          go_roundw
          case rel =>
            refine ⟨z54, .int .i32 f, .tuple #[.bool true, .int .i64 j, .int .i32 f], .bool true, .int .i32 f, z28, z29, z30, z31, z32, z33, z34, z35, z36, z37, z38, z39, z40, z41, z42, z43, z44, z45, z46, z47, z48, z49, z50, z51, z52, z53, z54, ⟨j + 1, z54, by omega, rfl, HI2.out, HV2.out, HW2.out⟩, ?_⟩
            rfl
          case measure => rw [HPOS.out, iterPos_of HI2.out]; omega
      · obtain rfl : j = LS.length := by omega
        have hnx := fun ty => Lib.run_next_end_at (P := Tryd.prog) wr (W.heap.size + 1) (bs LS) LS.length ty HI.out (by rw [bs_size]; omega)
        have HV2 := HV.out
        rw [List.take_length] at HV2
        have hlen : (NM :: LS.map FL).length = LS.length + 1 := by simp
        rw [← hlen] at HV2
        have hll := HLB.out.1
        have HJF := Lib.hid (joinFn W.heap.size _ (NM :: LS.map FL) wr HV2 (by simp) (by rw [hlen]; omega) (by
          have := joinL_le (NM :: LS.map FL) 1000 (by
            intro l hl
            rcases List.mem_cons.1 hl with rfl | hl
            · exact HNL.out
            · obtain ⟨x, hx, rfl⟩ := List.mem_map.1 hl
              exact HFL.out x)
          rw [hlen] at this
          have h2 : (LS.length + 1) * (1000 + 1) ≤ 4 * 1001 := Nat.mul_le_mul (by omega) (by omega)
          omega))
        rw [← HOL.out] at HJF
        unfold StrRes at HJF
        have HBW := Lib.hid (below_then HB2.out HB2.out.size HW.out)
        clear HV2 HW HV
        go_wp2_with fail
        refine HJF.out.mono ?_
        rintro e wz ⟨rfl, hbz⟩
        have HBZ := Lib.hid (below_then HBW.out HBW.out.size hbz)
        clear hbz
        go_wp2_with fail
        go_ret2
        exact HR.out _ _ ⟨rfl, HBZ.out⟩
  · have HR : Hid (∀ e w', (e = .returned (.tuple #[.string ⟨#[]⟩, .int .i64 2]) ∧ Below w.heap.size w w') → OpRes o w e w') := fun e w' h => ⟨by rw [plainB_no hp]; exact h.1, h.2⟩
    rw [plainB_no hp] at HPL
    clear hp
    obtain ⟨x0, x1, x2, x3, x4, x5, x6⟩ := o
    go_enter Tryd.func6, Tryd.ntmps6
    go_wp2_with fail
    refine (HPL.out _).mono ?_
    rintro e w1 ⟨rfl, hb⟩
    have HB1 := Lib.hid (below_then (HB.out _) (by simp) hb)
    clear hb
    go_wp2_with fail
    go_ret2
    exact HR.out _ _ ⟨rfl, HB1.out⟩
end Go.Proofs.YtcbhfhmpajamoaaDoor
