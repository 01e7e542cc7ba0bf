/- Walk: Op, by the reference. -/
import Derived.Test.YtcbhfhmpajamoaaDoorO5
namespace Go.Proofs.YtcbhfhmpajamoaaDoor
open Go.RowKit

def accB (o : OpV) (f : Bool) : List Int := if f then nameL o.kind ++ 32 :: decL o.id.toNat else nameL o.kind
def accP (vs : List Int) (hs : List Bool) : Nat → List Int
  | 0 => []
  | i + 1 => accP vs hs i ++ (if hs.getD i false then 32 :: decL (vs.getD i 0).toNat else [])
def valsR (o : OpV) : List Int := [o.slot, o.id, o.pos, o.num, o.grav]
def hasR (o : OpV) (m : Bool) : List Bool := [useB o.kind 0, m, useB o.kind 1, useB o.kind 2, useB o.kind 4]
theorem acc_all (o : OpV) (h1 : 1 ≤ o.kind) (h2 : o.kind ≤ 16) : accB o (decide (o.kind = 3 ∨ o.kind = 4)) ++ accP (valsR o) (hasR o (decide (o.kind = 10))) 5 ++ (if useB o.kind 5 then 32 :: quoteL o.text else []) = opL o := by
  obtain ⟨k, x1, x2, x3, x4, x5, x6⟩ := o
  dsimp only at h1 h2
  unfold opL
  dsimp only
  rcases kind_cases h1 h2 with rfl | rfl | rfl | rfl | rfl | rfl | rfl | rfl | rfl | rfl | rfl | rfl | rfl | rfl | rfl | rfl <;>
    simp [accB, accP, valsR, hasR, useB, fieldsOf, lettersL, nameL, joinL, fieldL]
theorem add_word (x y : List Int) : bs x ++ ((⟨#[32]⟩ : ByteArray) ++ bs y) = bs (x ++ 32 :: y) := by
  rw [show (⟨#[32]⟩ : ByteArray) = bs [32] from rfl, bs_app, bs_app]
  simp
theorem sz_word (y : ByteArray) : ((⟨#[32]⟩ : ByteArray) ++ y).size = 1 + y.size := by
  rw [ByteArray.size_append]; rfl
theorem accP_len (vs : List Int) (hs : List Bool) (h : ∀ v ∈ vs, v ≤ 9999999999) (h0 : ∀ v ∈ vs, 0 ≤ v) : ∀ i, (accP vs hs i).length ≤ i * 11
  | 0 => by simp [accP]
  | i + 1 => by
    have ih := accP_len vs hs h h0 i
    rw [accP, List.length_append]
    have hv : (decL (vs.getD i 0).toNat).length ≤ 10 := by
      have hm : vs.getD i 0 ≤ 9999999999 ∧ 0 ≤ vs.getD i 0 := by
        by_cases hi : i < vs.length
        · exact ⟨h _ (getD_mem 0 vs i hi), h0 _ (getD_mem 0 vs i hi)⟩
        · rw [List.getD_eq_getElem?_getD, List.getElem?_eq_none (by omega)]; simp
      have := numL_le _ hm.1
      unfold numL at this
      rw [if_neg (by omega)] at this
      exact this
    split
    · rw [List.length_cons]; omega
    · simp; omega
theorem num_ok (x : Int) (h0 : 0 ≤ x) (h1 : x ≤ 9999999999) (w : World) : Calls Tryd.prog 24 #[.int .i64 x] w (fun e w' => e = .returned (.tuple #[.string (bs (decL x.toNat)), .bool true]) ∧ Below w.heap.size w w') :=
  (numberFn x w).mono fun e w' h => ⟨by have := h.1; rw [if_pos ⟨h0, h1⟩] at this; exact this, h.2⟩
theorem refOp_no (o : OpV) (w : World) (hk : 0 ≤ o.kind) (hp : ¬ PlainOp o) : Calls Tryd.prog 9 #[opVal o] w (OpRes o w) := by
  have HPL := Lib.hid (fun W : World => plainRef o W hk)
  have HB := Lib.hid (fun ob : Obj => below_box w ob)
  have HR : Hid (∀ e w', (e = .returned (.tuple #[.string ⟨#[]⟩, .int .i64 2]) ∧ Below w.heap.size w w') → OpRes o w e w') := fun e w' h => ⟨by rw [plainB_no hp]; exact h.1, h.2⟩
  rw [plainB_no hp] at HPL
  clear hp
  obtain ⟨x0, x1, x2, x3, x4, x5, x6⟩ := o
  go_enter Tryd.func9, Tryd.ntmps9
  go_wp2_with fail
  refine (HPL.out _).mono ?_
  rintro e w1 ⟨rfl, hb⟩
  have HB1 := Lib.hid (below_then (HB.out _) (by simp) hb)
  clear hb
  go_wp2_with fail
  go_ret2
  exact HR.out _ _ ⟨rfl, HB1.out⟩
/-- The world of Op behind its fourth statement: the operation's box, the fields that its kind uses. -/
theorem opAt_cells {W : World} {b : Nat} {x0 x1 x2 x3 x4 x5 : Int} {x6 : ByteArray} (h : OpAt W b 0 ⟨x0, x1, x2, x3, x4, x5, x6⟩) :
    W.cell? ⟨b, 0, none⟩ = some (.int .u8 x0) ∧ W.cell? ⟨b, 1, none⟩ = some (.int .i64 x1) ∧ W.cell? ⟨b, 2, none⟩ = some (.int .i64 x2) ∧ W.cell? ⟨b, 3, none⟩ = some (.int .i64 x3) ∧ W.cell? ⟨b, 4, none⟩ = some (.int .u32 x4) ∧
      W.cell? ⟨b, 5, none⟩ = some (.int .u8 x5) ∧ W.cell? ⟨b, 6, none⟩ = some (.string x6) := by
  obtain ⟨m0, m1, m2, m3, m4, m5, m6⟩ := h
  simp only [Nat.zero_add] at m0 m1 m2 m3 m4 m5 m6
  exact ⟨m0, m1, m2, m3, m4, m5, m6⟩
set_option maxHeartbeats 0 in
set_option maxRecDepth 100000 in
theorem refOp_d (o : OpV) (w : World) (ht : OpTy o) (hp : PlainOp o) (n3 : ¬ o.kind = 3) (n4 : ¬ o.kind = 4) (n10 : ¬ o.kind = 10) : Calls Tryd.prog 9 #[opVal o] w (OpRes o w) := by
  have k1 := hp.kind.1
  have k2 := hp.kind.2
  have HPL := Lib.hid (fun W : World => plainRef o W ht.kind.1)
  rw [plainB_yes hp] at HPL
  have HB := Lib.hid (fun ob : Obj => below_box w ob)
  have HTY := Lib.hid ht
  have HPO := Lib.hid hp
  have HN := Lib.hid (opAt_new w o.kind o.slot o.pos o.num o.id o.grav o.text)
  have HWD := Lib.hid (fun W : World => wordFn o.kind k1 k2 W)
  have HUS := Lib.hid (fun W : World => usesFn o.kind W (by omega) (by omega))
  have HNL := Lib.hid (nameL_le k1 k2)
  have HAC := Lib.hid (acc_all o k1 k2)
  rw [show decide (o.kind = 3 ∨ o.kind = 4) = false from by simp; omega, show decide (o.kind = 10) = false from by simp; omega] at HAC
  have HR : Hid (∀ e w', (e = .returned (.tuple #[.string (bs (opL o)), .int .i64 0]) ∧ Below w.heap.size w w') → OpRes o w e w') := fun e w' h => ⟨by rw [plainB_yes hp]; exact h.1, h.2⟩
  have HID := Lib.hid (fun W : World => num_ok o.id ht.id.1 (by have := ht.id.2; omega) W)
  have HQ := Lib.hid (fun W : World => stringFnR o.text W (by have := hp.text; omega))
  have HVB : Hid (∀ v ∈ valsR o, 0 ≤ v ∧ v ≤ 9999999999) := fun v hv => by
    have h1 := hp.slot; have h2 := hp.pos; have h3 := hp.num; have h4 := ht.id; have h5 := ht.grav
    simp only [valsR, List.mem_cons, List.not_mem_nil, or_false] at hv
    rcases hv with rfl | rfl | rfl | rfl | rfl <;> omega
  have HDI : Hid ((decL o.id.toNat).length ≤ 10) := by
    have := numL_le o.id (by have := ht.id.2; omega)
    unfold numL at this
    rw [if_neg (by have := ht.id.1; omega)] at this
    exact this
  have HQL : Hid ((quoteL o.text).length ≤ 1000) := by have := hp.text; show _ ≤ _; rw [quoteL_len]; omega
  unfold UsesRes usesVal at HUS
  unfold StrRes at HWD HQ
  have HVS : Hid (valsR o = [o.slot, o.id, o.pos, o.num, o.grav]) := rfl
  have HHS : Hid (hasR o false = [useB o.kind 0, false, useB o.kind 1, useB o.kind 2, useB o.kind 4]) := rfl
  have HAB : Hid (accB o false = nameL o.kind) := by unfold accB; rfl
  have hx4 : wrap64 o.id = o.id := by have := ht.id; unfold wrap64; omega
  have hx5 : wrap64 o.grav = o.grav := by have := ht.grav; unfold wrap64; omega
  generalize accB o false = AB at *
  generalize hasR o false = HS at *
  generalize valsR o = VS at *
  generalize quoteL o.text = QT at *
  generalize opL o = OL at *
  generalize nameL o.kind = NM at *
  generalize hidl : decL o.id.toNat = DI at *
  generalize useB o.kind 0 = a0 at *
  generalize useB o.kind 1 = a1 at *
  generalize useB o.kind 2 = a2 at *
  generalize useB o.kind 3 = a3 at *
  generalize useB o.kind 4 = a4 at *
  generalize useB o.kind 5 = a5 at *
  have hid0 := ht.id.1
  have hid1 := ht.id.2
  have hgr0 := ht.grav.1
  have hgr1 := ht.grav.2
  have H3 : Hid ((o.kind == 3) = false) := by show _ = _; simpa using n3
  have H4 : Hid ((o.kind == 4) = false) := by show _ = _; simpa using n4
  have H10 : Hid ((o.kind == 10) = false) := by show _ = _; simpa using n10
  clear hp ht n3 n4 n10
  obtain ⟨x0, x1, x2, x3, x4, x5, x6⟩ := o
  dsimp only at *
  go_enter Tryd.func9, Tryd.ntmps9
  go_wp2_with fail
  refine (HPL.out _).mono ?_
  rintro e w1 ⟨rfl, hb⟩
  have HB1 := Lib.hid (below_then (HB.out _) (by simp) hb)
  have HO1 := Lib.hid (HN.out.keep (hb.block w.heap.size (by simp)))
  obtain ⟨m0, m1, m2, m3, m4, m5, m6⟩ := opAt_cells HO1.out
  clear hb HB HN HPL m1 m2 m3 m4 m5 m6
  go_wp2_with fail
  refine (HWD.out _).mono ?_
  rintro e w2 ⟨rfl, hb⟩
  have HB2 := Lib.hid (below_then HB1.out HB1.out.size hb)
  have HO2 := Lib.hid (HO1.out.keep (hb.block _ (World.block_lt_of_cell? _ _ HO1.out.c0)))
  obtain ⟨m0, m1, m2, m3, m4, m5, m6⟩ := opAt_cells HO2.out
  clear hb HB1 HO1 HWD m1 m2 m3 m4 m5 m6
  go_wp2_with fail
  refine (HUS.out _).mono ?_
  rintro e w3 ⟨rfl, hg⟩
  have hq : w.heap.size < w2.heap.size := World.block_lt_of_cell? _ _ m0
  have HB3 : Hid (Below w.heap.size w (w3.alloc (.cells #[.bool a0, .bool a1, .bool a2, .bool a3, .bool a4, .bool a5] 59))) := (below_grown HB2.out hg HB2.out.size).alloc (by have := hg.size; omega) _
  have HO3 := Lib.hid ((HO2.out.grown hg).keep (Below.heap_alloc w3 (.cells #[.bool a0, .bool a1, .bool a2, .bool a3, .bool a4, .bool a5] 59) _ (by have := hg.size; omega)))
  have HU3 := Lib.hid (heap_alloc_new w3 (.cells #[.bool a0, .bool a1, .bool a2, .bool a3, .bool a4, .bool a5] 59))
  clear hg HB2 HO2 HUS m0
  go_upto_region 5 with fail
  generalize w3.alloc (.cells #[.bool a0, .bool a1, .bool a2, .bool a3, .bool a4, .bool a5] 59) = W3 at *
  generalize w3.heap.size = ub at *
  obtain ⟨m0, m1, m2, m3, m4, m5, m6⟩ := opAt_cells HO3.out
  have h3 := H3.out
  have h4 := H4.out
  have h10 := H10.out
  go_upto_region 6 with fail
  have hlw : w.heap.size < W3.heap.size := World.block_lt_of_cell? _ _ m0
  have hlu := heap_lt HU3.out
  have HO4 := Lib.hid (HO3.out.keep (Below.heap_alloc W3 (.cells #[.bool false, .bool false] 61) _ hlw))
  have HU4 := Lib.hid ((Below.heap_alloc W3 (.cells #[.bool false, .bool false] 61) _ hlu).trans HU3.out)
  have HF4 := Lib.hid (heap_alloc_new W3 (.cells #[.bool false, .bool false] 61))
  have HB4 := Lib.hid (HB3.out.alloc HB3.out.size (.cells #[.bool false, .bool false] 61))
  clear HO3 HU3 HB3 m0 m1 m2 m3 m4 m5 m6 hlw hlu
  generalize W3.alloc (.cells #[.bool false, .bool false] 61) = W4 at *
  generalize W3.heap.size = fb at *
  have hsNM : (bs NM).size ≤ 1000 := by rw [bs_size]; exact HNL.out
  have f0 : W4.cell? ⟨fb, 0, none⟩ = some (.bool false) := by rw [cell_of_row _ _ _ _ _ _ HF4.out]; rfl
  go_upto_region 9 with fail
  have HB5 := HB4
  have HO5 := HO4
  have HU5 := HU4
  have HF5 := HF4
  clear HB4 HO4 HU4 HF4 f0
  generalize W4 = w5 at *
  rw [← HAB.out]
  have hsAB : (bs AB).size ≤ 1011 := by
    rw [bs_size, HAB.out]
    have h1 := HNL.out
    have h2 := HDI.out
    first | (rw [List.length_append, List.length_cons]; omega) | omega
  obtain ⟨m0, m1, m2, m3, m4, m5, m6⟩ := opAt_cells HO5.out
  have u0 : w5.cell? ⟨ub, 0, none⟩ = some (.bool a0) := by rw [cell_of_row _ _ _ _ _ _ HU5.out]; rfl
  have u1 : w5.cell? ⟨ub, 1, none⟩ = some (.bool a1) := by rw [cell_of_row _ _ _ _ _ _ HU5.out]; rfl
  have u2 : w5.cell? ⟨ub, 2, none⟩ = some (.bool a2) := by rw [cell_of_row _ _ _ _ _ _ HU5.out]; rfl
  have u4 : w5.cell? ⟨ub, 4, none⟩ = some (.bool a4) := by rw [cell_of_row _ _ _ _ _ _ HU5.out]; rfl
  have f1 : w5.cell? ⟨fb, 1, none⟩ = some (.bool false) := by rw [cell_of_row _ _ _ _ _ _ HF5.out]; rfl
  have hlw : w.heap.size < w5.heap.size := World.block_lt_of_cell? _ _ m0
  have hlu := heap_lt HU5.out
  have hlf := heap_lt HF5.out
  go_upto_region 11 with fail
  have HV6 : Hid (((w5.alloc (.cells #[.int .i64 x1, .int .i64 x4, .int .i64 x2, .int .i64 x3, .int .i64 x5] 62)).alloc (.cells #[.bool a0, .bool false, .bool a1, .bool a2, .bool a4] 63)).heap[w5.heap.size]? = some (.cells (VS.map (Value.int .i64)).toArray 62)) := by
    show _ = _
    rw [Below.heap_alloc _ _ _ (by simp), heap_alloc_new, HVS.out]; rfl
  have HH6 : Hid (((w5.alloc (.cells #[.int .i64 x1, .int .i64 x4, .int .i64 x2, .int .i64 x3, .int .i64 x5] 62)).alloc (.cells #[.bool a0, .bool false, .bool a1, .bool a2, .bool a4] 63)).heap[w5.heap.size + 1]? = some (.cells (HS.map Value.bool).toArray 63)) := by
    show _ = _
    rw [HHS.out]
    have := heap_alloc_new (w5.alloc (.cells #[.int .i64 x1, .int .i64 x4, .int .i64 x2, .int .i64 x3, .int .i64 x5] 62)) (.cells #[.bool a0, .bool false, .bool a1, .bool a2, .bool a4] 63)
    simpa using this
  have HO6 := Lib.hid ((HO5.out.keep (Below.heap_alloc w5 (.cells #[.int .i64 x1, .int .i64 x4, .int .i64 x2, .int .i64 x3, .int .i64 x5] 62) _ hlw)).keep (Below.heap_alloc _ (.cells #[.bool a0, .bool false, .bool a1, .bool a2, .bool a4] 63) _ (by simp; omega)))
  have HU6 := Lib.hid (((Below.heap_alloc _ (.cells #[.bool a0, .bool false, .bool a1, .bool a2, .bool a4] 63) _ (by simp; omega)).trans (Below.heap_alloc w5 (.cells #[.int .i64 x1, .int .i64 x4, .int .i64 x2, .int .i64 x3, .int .i64 x5] 62) _ hlu)).trans HU5.out)
  have HB6 := Lib.hid ((HB5.out.alloc HB5.out.size (.cells #[.int .i64 x1, .int .i64 x4, .int .i64 x2, .int .i64 x3, .int .i64 x5] 62)).alloc (by have := HB5.out.size; simp; omega) (.cells #[.bool a0, .bool false, .bool a1, .bool a2, .bool a4] 63))
  clear HO5 HU5 HF5 HB5 m0 m1 m2 m3 m4 m5 m6 u0 u1 u2 u4 f1 hlw hlu hlf
  generalize (w5.alloc (.cells #[.int .i64 x1, .int .i64 x4, .int .i64 x2, .int .i64 x3, .int .i64 x5] 62)).alloc (.cells #[.bool a0, .bool false, .bool a1, .bool a2, .bool a4] 63) = W6 at *
  generalize w5.heap.size = vb at *
  have HVL : Hid (VS.length = 5) := by show _ = _; rw [HVS.out]; rfl
  have HHL : Hid (HS.length = 5) := by show _ = _; rw [HHS.out]; rfl
  have HAL := Lib.hid (accP_len VS HS (fun v hv => (HVB.out v hv).2) (fun v hv => (HVB.out v hv).1))
  clear HVS HHS
  go_wp2_with fail
  go_loopw [4, 11] (fun s i wr => ∃ (k : Nat) (s' : ByteArray), k ≤ 5 ∧ i = .int .i64 k ∧ s = .string s' ∧ Hid (s' = bs (AB ++ accP VS HS k)) ∧ Hid (wr.heap[vb]? = some (.cells (VS.map (Value.int .i64)).toArray 62)) ∧ Hid (wr.heap[vb + 1]? = some (.cells (HS.map Value.bool).toArray 63)) ∧
    Hid (OpAt wr w.heap.size 0 ⟨x0, x1, x2, x3, x4, x5, x6⟩) ∧ Hid (wr.heap[ub]? = some (.cells #[.bool a0, .bool a1, .bool a2, .bool a3, .bool a4, .bool a5] 59)) ∧ Hid (Below w.heap.size w wr)) (fun _ i _ => 5 - (intOf i).toNat)
  case atStart => exact ⟨0, _, by omega, rfl, rfl, by show _ = _; simp [accP], HV6.out, HH6.out, HO6.out, HU6.out, HB6.out⟩
  case round =>
    obtain ⟨k, s', hk, rfl, rfl, HE, HV, HH, HO, HU, HW⟩ := hrel
    clear HV6 HH6 HO6 HU6 HB6
    have hsz : s'.size ≤ 2000 := by
      rw [HE.out, bs_size, List.length_append]
      have h1 := HAL.out k
      have h2 := hsAB
      rw [bs_size] at h2
      omega
    by_cases hlt : k < 5
    · have hki : (k : Int) < 5 := by omega
      have hkh : k < HS.length := by rw [HHL.out]; exact hlt
      have hkv : k < VS.length := by rw [HVL.out]; exact hlt
      have hc : wr.cell? ⟨vb + 1, k, none⟩ = some (.bool (HS.getD k false)) := by
        rw [cell_of_row _ _ _ _ _ _ HH.out, List.getElem?_toArray, List.getElem?_map, getD_at false HS k hkh]; rfl
      have hv : wr.cell? ⟨vb, k, none⟩ = some (.int .i64 (VS.getD k 0)) := by
        rw [cell_of_row _ _ _ _ _ _ HV.out, List.getElem?_toArray, List.getElem?_map, getD_at 0 VS k hkv]; rfl
      have hbv := HVB.out _ (getD_mem 0 VS k hkv)
      have HAS : Hid (accP VS HS (k + 1) = accP VS HS k ++ (if HS.getD k false then 32 :: decL (VS.getD k 0).toNat else [])) := rfl
      clear hkh hkv
      generalize VS.getD k 0 = x at *
      generalize HS.getD k false = hb at *
      cases hb
      · rw [if_neg (by decide), List.append_nil] at HAS
        go_wp2_with fail
        go_roundw
        case rel => exact ⟨k + 1, _, by omega, by go_num, rfl, by show _ = _; rw [HAS.out]; exact HE.out, HV.out, HH.out, HO.out, HU.out, HW.out⟩
        case measure => simp [intOf]; omega
      · rw [if_pos rfl] at HAS
        have HNK := Lib.hid (num_ok x hbv.1 hbv.2 wr)
        have hdx : (bs (decL x.toNat)).size ≤ 10 := by
          rw [bs_size]
          have := numL_le x hbv.2
          unfold numL at this
          rw [if_neg (by omega)] at this
          exact this
        have hs1 := sz_word (bs (decL x.toNat))
        generalize decL x.toNat = dx at *
        go_wp2_with fail
        refine HNK.out.mono ?_
        rintro e w7 ⟨rfl, hb7⟩
        have HV7 := Lib.hid ((hb7.block _ (heap_lt HV.out)).trans HV.out)
        have HH7 := Lib.hid ((hb7.block _ (heap_lt HH.out)).trans HH.out)
        have HO7 := Lib.hid (HO.out.keep (hb7.block _ (World.block_lt_of_cell? _ _ HO.out.c0)))
        have HU7 := Lib.hid ((hb7.block _ (heap_lt HU.out)).trans HU.out)
        have HW7 := Lib.hid (below_then HW.out HW.out.size hb7)
        clear hb7 HV HH HO HU HW HNK hc hv
        go_wp2_with fail
        go_roundw
        case rel => exact ⟨k + 1, _, by omega, by go_num, rfl, by show _ = _; rw [HE.out, add_word, HAS.out, List.append_assoc], HV7.out, HH7.out, HO7.out, HU7.out, HW7.out⟩
        case measure => simp [intOf]; omega
    · obtain rfl : k = 5 := by omega
      obtain ⟨m0, m1, m2, m3, m4, m5, m6⟩ := opAt_cells HO.out
      have u5 : wr.cell? ⟨ub, 5, none⟩ = some (.bool a5) := by rw [cell_of_row _ _ _ _ _ _ HU.out]; rfl
      clear m0 m1 m2 m3 m4 m5
      have hac := HAC.out
      rw [List.append_assoc] at hac
      cases a5
      · have hs : s' = bs OL := by rw [← hac, if_neg (by decide), List.append_nil]; exact HE.out
        subst hs
        go_wp2_with fail
        go_ret2
        exact HR.out _ _ ⟨rfl, HW.out⟩
      · have hs : s' ++ ((⟨#[32]⟩ : ByteArray) ++ bs QT) = bs OL := by rw [HE.out, add_word, ← hac, if_pos rfl, List.append_assoc]
        have hqt : (bs QT).size ≤ 1000 := by rw [bs_size]; exact HQL.out
        have hs1 := sz_word (bs QT)
        have HS9 := Lib.hid hs
        clear hs
        go_wp2_with fail
        refine (HQ.out _).mono ?_
        rintro e w8 ⟨rfl, hb8⟩
        have HW8 := Lib.hid (below_then HW.out HW.out.size hb8)
        clear hb8
        go_wp2_with fail
        go_ret2
        exact HR.out _ _ ⟨by rw [← HS9.out]; rfl, HW8.out⟩
set_option maxHeartbeats 0 in
set_option maxRecDepth 100000 in
theorem refOp_a (o : OpV) (w : World) (ht : OpTy o) (hp : PlainOp o) (n3 : o.kind = 3) (n4 : ¬ o.kind = 4) (n10 : ¬ o.kind = 10) : Calls Tryd.prog 9 #[opVal o] w (OpRes o w) := by
  have k1 := hp.kind.1
  have k2 := hp.kind.2
  have HPL := Lib.hid (fun W : World => plainRef o W ht.kind.1)
  rw [plainB_yes hp] at HPL
  have HB := Lib.hid (fun ob : Obj => below_box w ob)
  have HTY := Lib.hid ht
  have HPO := Lib.hid hp
  have HN := Lib.hid (opAt_new w o.kind o.slot o.pos o.num o.id o.grav o.text)
  have HWD := Lib.hid (fun W : World => wordFn o.kind k1 k2 W)
  have HUS := Lib.hid (fun W : World => usesFn o.kind W (by omega) (by omega))
  have HNL := Lib.hid (nameL_le k1 k2)
  have HAC := Lib.hid (acc_all o k1 k2)
  rw [show decide (o.kind = 3 ∨ o.kind = 4) = true from by simp; omega, show decide (o.kind = 10) = false from by simp; omega] at HAC
  have HR : Hid (∀ e w', (e = .returned (.tuple #[.string (bs (opL o)), .int .i64 0]) ∧ Below w.heap.size w w') → OpRes o w e w') := fun e w' h => ⟨by rw [plainB_yes hp]; exact h.1, h.2⟩
  have HID := Lib.hid (fun W : World => num_ok o.id ht.id.1 (by have := ht.id.2; omega) W)
  have HQ := Lib.hid (fun W : World => stringFnR o.text W (by have := hp.text; omega))
  have HVB : Hid (∀ v ∈ valsR o, 0 ≤ v ∧ v ≤ 9999999999) := fun v hv => by
    have h1 := hp.slot; have h2 := hp.pos; have h3 := hp.num; have h4 := ht.id; have h5 := ht.grav
    simp only [valsR, List.mem_cons, List.not_mem_nil, or_false] at hv
    rcases hv with rfl | rfl | rfl | rfl | rfl <;> omega
  have HDI : Hid ((decL o.id.toNat).length ≤ 10) := by
    have := numL_le o.id (by have := ht.id.2; omega)
    unfold numL at this
    rw [if_neg (by have := ht.id.1; omega)] at this
    exact this
  have HQL : Hid ((quoteL o.text).length ≤ 1000) := by have := hp.text; show _ ≤ _; rw [quoteL_len]; omega
  unfold UsesRes usesVal at HUS
  unfold StrRes at HWD HQ
  have HVS : Hid (valsR o = [o.slot, o.id, o.pos, o.num, o.grav]) := rfl
  have HHS : Hid (hasR o false = [useB o.kind 0, false, useB o.kind 1, useB o.kind 2, useB o.kind 4]) := rfl
  have HAB : Hid (accB o true = nameL o.kind ++ 32 :: decL o.id.toNat) := by unfold accB; rfl
  have hx4 : wrap64 o.id = o.id := by have := ht.id; unfold wrap64; omega
  have hx5 : wrap64 o.grav = o.grav := by have := ht.grav; unfold wrap64; omega
  generalize accB o true = AB at *
  generalize hasR o false = HS at *
  generalize valsR o = VS at *
  generalize quoteL o.text = QT at *
  generalize opL o = OL at *
  generalize nameL o.kind = NM at *
  generalize hidl : decL o.id.toNat = DI at *
  generalize useB o.kind 0 = a0 at *
  generalize useB o.kind 1 = a1 at *
  generalize useB o.kind 2 = a2 at *
  generalize useB o.kind 3 = a3 at *
  generalize useB o.kind 4 = a4 at *
  generalize useB o.kind 5 = a5 at *
  have hid0 := ht.id.1
  have hid1 := ht.id.2
  have hgr0 := ht.grav.1
  have hgr1 := ht.grav.2
  have H3 : Hid ((o.kind == 3) = true) := by show _ = _; simpa using n3
  have H4 : Hid ((o.kind == 4) = false) := by show _ = _; simpa using n4
  have H10 : Hid ((o.kind == 10) = false) := by show _ = _; simpa using n10
  clear hp ht n3 n4 n10
  obtain ⟨x0, x1, x2, x3, x4, x5, x6⟩ := o
  dsimp only at *
  go_enter Tryd.func9, Tryd.ntmps9
  go_wp2_with fail
  refine (HPL.out _).mono ?_
  rintro e w1 ⟨rfl, hb⟩
  have HB1 := Lib.hid (below_then (HB.out _) (by simp) hb)
  have HO1 := Lib.hid (HN.out.keep (hb.block w.heap.size (by simp)))
  obtain ⟨m0, m1, m2, m3, m4, m5, m6⟩ := opAt_cells HO1.out
  clear hb HB HN HPL m1 m2 m3 m4 m5 m6
  go_wp2_with fail
  refine (HWD.out _).mono ?_
  rintro e w2 ⟨rfl, hb⟩
  have HB2 := Lib.hid (below_then HB1.out HB1.out.size hb)
  have HO2 := Lib.hid (HO1.out.keep (hb.block _ (World.block_lt_of_cell? _ _ HO1.out.c0)))
  obtain ⟨m0, m1, m2, m3, m4, m5, m6⟩ := opAt_cells HO2.out
  clear hb HB1 HO1 HWD m1 m2 m3 m4 m5 m6
  go_wp2_with fail
  refine (HUS.out _).mono ?_
  rintro e w3 ⟨rfl, hg⟩
  have hq : w.heap.size < w2.heap.size := World.block_lt_of_cell? _ _ m0
  have HB3 : Hid (Below w.heap.size w (w3.alloc (.cells #[.bool a0, .bool a1, .bool a2, .bool a3, .bool a4, .bool a5] 59))) := (below_grown HB2.out hg HB2.out.size).alloc (by have := hg.size; omega) _
  have HO3 := Lib.hid ((HO2.out.grown hg).keep (Below.heap_alloc w3 (.cells #[.bool a0, .bool a1, .bool a2, .bool a3, .bool a4, .bool a5] 59) _ (by have := hg.size; omega)))
  have HU3 := Lib.hid (heap_alloc_new w3 (.cells #[.bool a0, .bool a1, .bool a2, .bool a3, .bool a4, .bool a5] 59))
  clear hg HB2 HO2 HUS m0
  go_upto_region 5 with fail
  generalize w3.alloc (.cells #[.bool a0, .bool a1, .bool a2, .bool a3, .bool a4, .bool a5] 59) = W3 at *
  generalize w3.heap.size = ub at *
  obtain ⟨m0, m1, m2, m3, m4, m5, m6⟩ := opAt_cells HO3.out
  have h3 := H3.out
  have h4 := H4.out
  have h10 := H10.out
  go_upto_region 6 with fail
  have hlw : w.heap.size < W3.heap.size := World.block_lt_of_cell? _ _ m0
  have hlu := heap_lt HU3.out
  have HO4 := Lib.hid (HO3.out.keep (Below.heap_alloc W3 (.cells #[.bool true, .bool false] 61) _ hlw))
  have HU4 := Lib.hid ((Below.heap_alloc W3 (.cells #[.bool true, .bool false] 61) _ hlu).trans HU3.out)
  have HF4 := Lib.hid (heap_alloc_new W3 (.cells #[.bool true, .bool false] 61))
  have HB4 := Lib.hid (HB3.out.alloc HB3.out.size (.cells #[.bool true, .bool false] 61))
  clear HO3 HU3 HB3 m0 m1 m2 m3 m4 m5 m6 hlw hlu
  generalize W3.alloc (.cells #[.bool true, .bool false] 61) = W4 at *
  generalize W3.heap.size = fb at *
  have hsNM : (bs NM).size ≤ 1000 := by rw [bs_size]; exact HNL.out
  have f0 : W4.cell? ⟨fb, 0, none⟩ = some (.bool true) := by rw [cell_of_row _ _ _ _ _ _ HF4.out]; rfl
  obtain ⟨m0, m1, m2, m3, m4, m5, m6⟩ := opAt_cells HO4.out
  go_wp2_with fail
  refine (HID.out _).mono ?_
  rintro e w5 ⟨rfl, hb⟩
  have HB5 := Lib.hid (below_then HB4.out HB4.out.size hb)
  have HO5 := Lib.hid (HO4.out.keep (hb.block _ (World.block_lt_of_cell? _ _ HO4.out.c0)))
  have HU5 := Lib.hid ((hb.block _ (heap_lt HU4.out)).trans HU4.out)
  have HF5 := Lib.hid ((hb.block _ (heap_lt HF4.out)).trans HF4.out)
  clear hb HB4 HO4 HU4 HF4 f0 m0 m1 m2 m3 m4 m5 m6
  have hsDI : (bs DI).size ≤ 10 := by rw [bs_size]; exact HDI.out
  have hs1 := sz_word (bs DI)
  go_upto_region 9 with fail
  rw [add_word, ← HAB.out]
  have hsAB : (bs AB).size ≤ 1011 := by
    rw [bs_size, HAB.out]
    have h1 := HNL.out
    have h2 := HDI.out
    first | (rw [List.length_append, List.length_cons]; omega) | omega
  obtain ⟨m0, m1, m2, m3, m4, m5, m6⟩ := opAt_cells HO5.out
  have u0 : w5.cell? ⟨ub, 0, none⟩ = some (.bool a0) := by rw [cell_of_row _ _ _ _ _ _ HU5.out]; rfl
  have u1 : w5.cell? ⟨ub, 1, none⟩ = some (.bool a1) := by rw [cell_of_row _ _ _ _ _ _ HU5.out]; rfl
  have u2 : w5.cell? ⟨ub, 2, none⟩ = some (.bool a2) := by rw [cell_of_row _ _ _ _ _ _ HU5.out]; rfl
  have u4 : w5.cell? ⟨ub, 4, none⟩ = some (.bool a4) := by rw [cell_of_row _ _ _ _ _ _ HU5.out]; rfl
  have f1 : w5.cell? ⟨fb, 1, none⟩ = some (.bool false) := by rw [cell_of_row _ _ _ _ _ _ HF5.out]; rfl
  have hlw : w.heap.size < w5.heap.size := World.block_lt_of_cell? _ _ m0
  have hlu := heap_lt HU5.out
  have hlf := heap_lt HF5.out
  go_upto_region 11 with fail
  have HV6 : Hid (((w5.alloc (.cells #[.int .i64 x1, .int .i64 x4, .int .i64 x2, .int .i64 x3, .int .i64 x5] 62)).alloc (.cells #[.bool a0, .bool false, .bool a1, .bool a2, .bool a4] 63)).heap[w5.heap.size]? = some (.cells (VS.map (Value.int .i64)).toArray 62)) := by
    show _ = _
    rw [Below.heap_alloc _ _ _ (by simp), heap_alloc_new, HVS.out]; rfl
  have HH6 : Hid (((w5.alloc (.cells #[.int .i64 x1, .int .i64 x4, .int .i64 x2, .int .i64 x3, .int .i64 x5] 62)).alloc (.cells #[.bool a0, .bool false, .bool a1, .bool a2, .bool a4] 63)).heap[w5.heap.size + 1]? = some (.cells (HS.map Value.bool).toArray 63)) := by
    show _ = _
    rw [HHS.out]
    have := heap_alloc_new (w5.alloc (.cells #[.int .i64 x1, .int .i64 x4, .int .i64 x2, .int .i64 x3, .int .i64 x5] 62)) (.cells #[.bool a0, .bool false, .bool a1, .bool a2, .bool a4] 63)
    simpa using this
  have HO6 := Lib.hid ((HO5.out.keep (Below.heap_alloc w5 (.cells #[.int .i64 x1, .int .i64 x4, .int .i64 x2, .int .i64 x3, .int .i64 x5] 62) _ hlw)).keep (Below.heap_alloc _ (.cells #[.bool a0, .bool false, .bool a1, .bool a2, .bool a4] 63) _ (by simp; omega)))
  have HU6 := Lib.hid (((Below.heap_alloc _ (.cells #[.bool a0, .bool false, .bool a1, .bool a2, .bool a4] 63) _ (by simp; omega)).trans (Below.heap_alloc w5 (.cells #[.int .i64 x1, .int .i64 x4, .int .i64 x2, .int .i64 x3, .int .i64 x5] 62) _ hlu)).trans HU5.out)
  have HB6 := Lib.hid ((HB5.out.alloc HB5.out.size (.cells #[.int .i64 x1, .int .i64 x4, .int .i64 x2, .int .i64 x3, .int .i64 x5] 62)).alloc (by have := HB5.out.size; simp; omega) (.cells #[.bool a0, .bool false, .bool a1, .bool a2, .bool a4] 63))
  clear HO5 HU5 HF5 HB5 m0 m1 m2 m3 m4 m5 m6 u0 u1 u2 u4 f1 hlw hlu hlf
  generalize (w5.alloc (.cells #[.int .i64 x1, .int .i64 x4, .int .i64 x2, .int .i64 x3, .int .i64 x5] 62)).alloc (.cells #[.bool a0, .bool false, .bool a1, .bool a2, .bool a4] 63) = W6 at *
  generalize w5.heap.size = vb at *
  have HVL : Hid (VS.length = 5) := by show _ = _; rw [HVS.out]; rfl
  have HHL : Hid (HS.length = 5) := by show _ = _; rw [HHS.out]; rfl
  have HAL := Lib.hid (accP_len VS HS (fun v hv => (HVB.out v hv).2) (fun v hv => (HVB.out v hv).1))
  clear HVS HHS
  go_wp2_with fail
  go_loopw [4, 11] (fun s i wr => ∃ (k : Nat) (s' : ByteArray), k ≤ 5 ∧ i = .int .i64 k ∧ s = .string s' ∧ Hid (s' = bs (AB ++ accP VS HS k)) ∧ Hid (wr.heap[vb]? = some (.cells (VS.map (Value.int .i64)).toArray 62)) ∧ Hid (wr.heap[vb + 1]? = some (.cells (HS.map Value.bool).toArray 63)) ∧
    Hid (OpAt wr w.heap.size 0 ⟨x0, x1, x2, x3, x4, x5, x6⟩) ∧ Hid (wr.heap[ub]? = some (.cells #[.bool a0, .bool a1, .bool a2, .bool a3, .bool a4, .bool a5] 59)) ∧ Hid (Below w.heap.size w wr)) (fun _ i _ => 5 - (intOf i).toNat)
  case atStart => exact ⟨0, _, by omega, rfl, rfl, by show _ = _; simp [accP], HV6.out, HH6.out, HO6.out, HU6.out, HB6.out⟩
  case round =>
    obtain ⟨k, s', hk, rfl, rfl, HE, HV, HH, HO, HU, HW⟩ := hrel
    clear HV6 HH6 HO6 HU6 HB6
    have hsz : s'.size ≤ 2000 := by
      rw [HE.out, bs_size, List.length_append]
      have h1 := HAL.out k
      have h2 := hsAB
      rw [bs_size] at h2
      omega
    by_cases hlt : k < 5
    · have hki : (k : Int) < 5 := by omega
      have hkh : k < HS.length := by rw [HHL.out]; exact hlt
      have hkv : k < VS.length := by rw [HVL.out]; exact hlt
      have hc : wr.cell? ⟨vb + 1, k, none⟩ = some (.bool (HS.getD k false)) := by
        rw [cell_of_row _ _ _ _ _ _ HH.out, List.getElem?_toArray, List.getElem?_map, getD_at false HS k hkh]; rfl
      have hv : wr.cell? ⟨vb, k, none⟩ = some (.int .i64 (VS.getD k 0)) := by
        rw [cell_of_row _ _ _ _ _ _ HV.out, List.getElem?_toArray, List.getElem?_map, getD_at 0 VS k hkv]; rfl
      have hbv := HVB.out _ (getD_mem 0 VS k hkv)
      have HAS : Hid (accP VS HS (k + 1) = accP VS HS k ++ (if HS.getD k false then 32 :: decL (VS.getD k 0).toNat else [])) := rfl
      clear hkh hkv
      generalize VS.getD k 0 = x at *
      generalize HS.getD k false = hb at *
      cases hb
      · rw [if_neg (by decide), List.append_nil] at HAS
        go_wp2_with fail
        go_roundw
        case rel => exact ⟨k + 1, _, by omega, by go_num, rfl, by show _ = _; rw [HAS.out]; exact HE.out, HV.out, HH.out, HO.out, HU.out, HW.out⟩
        case measure => simp [intOf]; omega
      · rw [if_pos rfl] at HAS
        have HNK := Lib.hid (num_ok x hbv.1 hbv.2 wr)
        have hdx : (bs (decL x.toNat)).size ≤ 10 := by
          rw [bs_size]
          have := numL_le x hbv.2
          unfold numL at this
          rw [if_neg (by omega)] at this
          exact this
        have hs1 := sz_word (bs (decL x.toNat))
        generalize decL x.toNat = dx at *
        go_wp2_with fail
        refine HNK.out.mono ?_
        rintro e w7 ⟨rfl, hb7⟩
        have HV7 := Lib.hid ((hb7.block _ (heap_lt HV.out)).trans HV.out)
        have HH7 := Lib.hid ((hb7.block _ (heap_lt HH.out)).trans HH.out)
        have HO7 := Lib.hid (HO.out.keep (hb7.block _ (World.block_lt_of_cell? _ _ HO.out.c0)))
        have HU7 := Lib.hid ((hb7.block _ (heap_lt HU.out)).trans HU.out)
        have HW7 := Lib.hid (below_then HW.out HW.out.size hb7)
        clear hb7 HV HH HO HU HW HNK hc hv
        go_wp2_with fail
        go_roundw
        case rel => exact ⟨k + 1, _, by omega, by go_num, rfl, by show _ = _; rw [HE.out, add_word, HAS.out, List.append_assoc], HV7.out, HH7.out, HO7.out, HU7.out, HW7.out⟩
        case measure => simp [intOf]; omega
    · obtain rfl : k = 5 := by omega
      obtain ⟨m0, m1, m2, m3, m4, m5, m6⟩ := opAt_cells HO.out
      have u5 : wr.cell? ⟨ub, 5, none⟩ = some (.bool a5) := by rw [cell_of_row _ _ _ _ _ _ HU.out]; rfl
      clear m0 m1 m2 m3 m4 m5
      have hac := HAC.out
      rw [List.append_assoc] at hac
      cases a5
      · have hs : s' = bs OL := by rw [← hac, if_neg (by decide), List.append_nil]; exact HE.out
        subst hs
        go_wp2_with fail
        go_ret2
        exact HR.out _ _ ⟨rfl, HW.out⟩
      · have hs : s' ++ ((⟨#[32]⟩ : ByteArray) ++ bs QT) = bs OL := by rw [HE.out, add_word, ← hac, if_pos rfl, List.append_assoc]
        have hqt : (bs QT).size ≤ 1000 := by rw [bs_size]; exact HQL.out
        have hs1 := sz_word (bs QT)
        have HS9 := Lib.hid hs
        clear hs
        go_wp2_with fail
        refine (HQ.out _).mono ?_
        rintro e w8 ⟨rfl, hb8⟩
        have HW8 := Lib.hid (below_then HW.out HW.out.size hb8)
        clear hb8
        go_wp2_with fail
        go_ret2
        exact HR.out _ _ ⟨by rw [← HS9.out]; rfl, HW8.out⟩
set_option maxHeartbeats 0 in
set_option maxRecDepth 100000 in
theorem refOp_b (o : OpV) (w : World) (ht : OpTy o) (hp : PlainOp o) (n3 : ¬ o.kind = 3) (n4 : o.kind = 4) (n10 : ¬ o.kind = 10) : Calls Tryd.prog 9 #[opVal o] w (OpRes o w) := by
  have k1 := hp.kind.1
  have k2 := hp.kind.2
  have HPL := Lib.hid (fun W : World => plainRef o W ht.kind.1)
  rw [plainB_yes hp] at HPL
  have HB := Lib.hid (fun ob : Obj => below_box w ob)
  have HTY := Lib.hid ht
  have HPO := Lib.hid hp
  have HN := Lib.hid (opAt_new w o.kind o.slot o.pos o.num o.id o.grav o.text)
  have HWD := Lib.hid (fun W : World => wordFn o.kind k1 k2 W)
  have HUS := Lib.hid (fun W : World => usesFn o.kind W (by omega) (by omega))
  have HNL := Lib.hid (nameL_le k1 k2)
  have HAC := Lib.hid (acc_all o k1 k2)
  rw [show decide (o.kind = 3 ∨ o.kind = 4) = true from by simp; omega, show decide (o.kind = 10) = false from by simp; omega] at HAC
  have HR : Hid (∀ e w', (e = .returned (.tuple #[.string (bs (opL o)), .int .i64 0]) ∧ Below w.heap.size w w') → OpRes o w e w') := fun e w' h => ⟨by rw [plainB_yes hp]; exact h.1, h.2⟩
  have HID := Lib.hid (fun W : World => num_ok o.id ht.id.1 (by have := ht.id.2; omega) W)
  have HQ := Lib.hid (fun W : World => stringFnR o.text W (by have := hp.text; omega))
  have HVB : Hid (∀ v ∈ valsR o, 0 ≤ v ∧ v ≤ 9999999999) := fun v hv => by
    have h1 := hp.slot; have h2 := hp.pos; have h3 := hp.num; have h4 := ht.id; have h5 := ht.grav
    simp only [valsR, List.mem_cons, List.not_mem_nil, or_false] at hv
    rcases hv with rfl | rfl | rfl | rfl | rfl <;> omega
  have HDI : Hid ((decL o.id.toNat).length ≤ 10) := by
    have := numL_le o.id (by have := ht.id.2; omega)
    unfold numL at this
    rw [if_neg (by have := ht.id.1; omega)] at this
    exact this
  have HQL : Hid ((quoteL o.text).length ≤ 1000) := by have := hp.text; show _ ≤ _; rw [quoteL_len]; omega
  unfold UsesRes usesVal at HUS
  unfold StrRes at HWD HQ
  have HVS : Hid (valsR o = [o.slot, o.id, o.pos, o.num, o.grav]) := rfl
  have HHS : Hid (hasR o false = [useB o.kind 0, false, useB o.kind 1, useB o.kind 2, useB o.kind 4]) := rfl
  have HAB : Hid (accB o true = nameL o.kind ++ 32 :: decL o.id.toNat) := by unfold accB; rfl
  have hx4 : wrap64 o.id = o.id := by have := ht.id; unfold wrap64; omega
  have hx5 : wrap64 o.grav = o.grav := by have := ht.grav; unfold wrap64; omega
  generalize accB o true = AB at *
  generalize hasR o false = HS at *
  generalize valsR o = VS at *
  generalize quoteL o.text = QT at *
  generalize opL o = OL at *
  generalize nameL o.kind = NM at *
  generalize hidl : decL o.id.toNat = DI at *
  generalize useB o.kind 0 = a0 at *
  generalize useB o.kind 1 = a1 at *
  generalize useB o.kind 2 = a2 at *
  generalize useB o.kind 3 = a3 at *
  generalize useB o.kind 4 = a4 at *
  generalize useB o.kind 5 = a5 at *
  have hid0 := ht.id.1
  have hid1 := ht.id.2
  have hgr0 := ht.grav.1
  have hgr1 := ht.grav.2
  have H3 : Hid ((o.kind == 3) = false) := by show _ = _; simpa using n3
  have H4 : Hid ((o.kind == 4) = true) := by show _ = _; simpa using n4
  have H10 : Hid ((o.kind == 10) = false) := by show _ = _; simpa using n10
  clear hp ht n3 n4 n10
  obtain ⟨x0, x1, x2, x3, x4, x5, x6⟩ := o
  dsimp only at *
  go_enter Tryd.func9, Tryd.ntmps9
  go_wp2_with fail
  refine (HPL.out _).mono ?_
  rintro e w1 ⟨rfl, hb⟩
  have HB1 := Lib.hid (below_then (HB.out _) (by simp) hb)
  have HO1 := Lib.hid (HN.out.keep (hb.block w.heap.size (by simp)))
  obtain ⟨m0, m1, m2, m3, m4, m5, m6⟩ := opAt_cells HO1.out
  clear hb HB HN HPL m1 m2 m3 m4 m5 m6
  go_wp2_with fail
  refine (HWD.out _).mono ?_
  rintro e w2 ⟨rfl, hb⟩
  have HB2 := Lib.hid (below_then HB1.out HB1.out.size hb)
  have HO2 := Lib.hid (HO1.out.keep (hb.block _ (World.block_lt_of_cell? _ _ HO1.out.c0)))
  obtain ⟨m0, m1, m2, m3, m4, m5, m6⟩ := opAt_cells HO2.out
  clear hb HB1 HO1 HWD m1 m2 m3 m4 m5 m6
  go_wp2_with fail
  refine (HUS.out _).mono ?_
  rintro e w3 ⟨rfl, hg⟩
  have hq : w.heap.size < w2.heap.size := World.block_lt_of_cell? _ _ m0
  have HB3 : Hid (Below w.heap.size w (w3.alloc (.cells #[.bool a0, .bool a1, .bool a2, .bool a3, .bool a4, .bool a5] 59))) := (below_grown HB2.out hg HB2.out.size).alloc (by have := hg.size; omega) _
  have HO3 := Lib.hid ((HO2.out.grown hg).keep (Below.heap_alloc w3 (.cells #[.bool a0, .bool a1, .bool a2, .bool a3, .bool a4, .bool a5] 59) _ (by have := hg.size; omega)))
  have HU3 := Lib.hid (heap_alloc_new w3 (.cells #[.bool a0, .bool a1, .bool a2, .bool a3, .bool a4, .bool a5] 59))
  clear hg HB2 HO2 HUS m0
  go_upto_region 5 with fail
  generalize w3.alloc (.cells #[.bool a0, .bool a1, .bool a2, .bool a3, .bool a4, .bool a5] 59) = W3 at *
  generalize w3.heap.size = ub at *
  obtain ⟨m0, m1, m2, m3, m4, m5, m6⟩ := opAt_cells HO3.out
  have h3 := H3.out
  have h4 := H4.out
  have h10 := H10.out
  go_upto_region 6 with fail
  have hlw : w.heap.size < W3.heap.size := World.block_lt_of_cell? _ _ m0
  have hlu := heap_lt HU3.out
  have HO4 := Lib.hid (HO3.out.keep (Below.heap_alloc W3 (.cells #[.bool true, .bool false] 61) _ hlw))
  have HU4 := Lib.hid ((Below.heap_alloc W3 (.cells #[.bool true, .bool false] 61) _ hlu).trans HU3.out)
  have HF4 := Lib.hid (heap_alloc_new W3 (.cells #[.bool true, .bool false] 61))
  have HB4 := Lib.hid (HB3.out.alloc HB3.out.size (.cells #[.bool true, .bool false] 61))
  clear HO3 HU3 HB3 m0 m1 m2 m3 m4 m5 m6 hlw hlu
  generalize W3.alloc (.cells #[.bool true, .bool false] 61) = W4 at *
  generalize W3.heap.size = fb at *
  have hsNM : (bs NM).size ≤ 1000 := by rw [bs_size]; exact HNL.out
  have f0 : W4.cell? ⟨fb, 0, none⟩ = some (.bool true) := by rw [cell_of_row _ _ _ _ _ _ HF4.out]; rfl
  obtain ⟨m0, m1, m2, m3, m4, m5, m6⟩ := opAt_cells HO4.out
  go_wp2_with fail
  refine (HID.out _).mono ?_
  rintro e w5 ⟨rfl, hb⟩
  have HB5 := Lib.hid (below_then HB4.out HB4.out.size hb)
  have HO5 := Lib.hid (HO4.out.keep (hb.block _ (World.block_lt_of_cell? _ _ HO4.out.c0)))
  have HU5 := Lib.hid ((hb.block _ (heap_lt HU4.out)).trans HU4.out)
  have HF5 := Lib.hid ((hb.block _ (heap_lt HF4.out)).trans HF4.out)
  clear hb HB4 HO4 HU4 HF4 f0 m0 m1 m2 m3 m4 m5 m6
  have hsDI : (bs DI).size ≤ 10 := by rw [bs_size]; exact HDI.out
  have hs1 := sz_word (bs DI)
  go_upto_region 9 with fail
  rw [add_word, ← HAB.out]
  have hsAB : (bs AB).size ≤ 1011 := by
    rw [bs_size, HAB.out]
    have h1 := HNL.out
    have h2 := HDI.out
    first | (rw [List.length_append, List.length_cons]; omega) | omega
  obtain ⟨m0, m1, m2, m3, m4, m5, m6⟩ := opAt_cells HO5.out
  have u0 : w5.cell? ⟨ub, 0, none⟩ = some (.bool a0) := by rw [cell_of_row _ _ _ _ _ _ HU5.out]; rfl
  have u1 : w5.cell? ⟨ub, 1, none⟩ = some (.bool a1) := by rw [cell_of_row _ _ _ _ _ _ HU5.out]; rfl
  have u2 : w5.cell? ⟨ub, 2, none⟩ = some (.bool a2) := by rw [cell_of_row _ _ _ _ _ _ HU5.out]; rfl
  have u4 : w5.cell? ⟨ub, 4, none⟩ = some (.bool a4) := by rw [cell_of_row _ _ _ _ _ _ HU5.out]; rfl
  have f1 : w5.cell? ⟨fb, 1, none⟩ = some (.bool false) := by rw [cell_of_row _ _ _ _ _ _ HF5.out]; rfl
  have hlw : w.heap.size < w5.heap.size := World.block_lt_of_cell? _ _ m0
  have hlu := heap_lt HU5.out
  have hlf := heap_lt HF5.out
  go_upto_region 11 with fail
  have HV6 : Hid (((w5.alloc (.cells #[.int .i64 x1, .int .i64 x4, .int .i64 x2, .int .i64 x3, .int .i64 x5] 62)).alloc (.cells #[.bool a0, .bool false, .bool a1, .bool a2, .bool a4] 63)).heap[w5.heap.size]? = some (.cells (VS.map (Value.int .i64)).toArray 62)) := by
    show _ = _
    rw [Below.heap_alloc _ _ _ (by simp), heap_alloc_new, HVS.out]; rfl
  have HH6 : Hid (((w5.alloc (.cells #[.int .i64 x1, .int .i64 x4, .int .i64 x2, .int .i64 x3, .int .i64 x5] 62)).alloc (.cells #[.bool a0, .bool false, .bool a1, .bool a2, .bool a4] 63)).heap[w5.heap.size + 1]? = some (.cells (HS.map Value.bool).toArray 63)) := by
    show _ = _
    rw [HHS.out]
    have := heap_alloc_new (w5.alloc (.cells #[.int .i64 x1, .int .i64 x4, .int .i64 x2, .int .i64 x3, .int .i64 x5] 62)) (.cells #[.bool a0, .bool false, .bool a1, .bool a2, .bool a4] 63)
    simpa using this
  have HO6 := Lib.hid ((HO5.out.keep (Below.heap_alloc w5 (.cells #[.int .i64 x1, .int .i64 x4, .int .i64 x2, .int .i64 x3, .int .i64 x5] 62) _ hlw)).keep (Below.heap_alloc _ (.cells #[.bool a0, .bool false, .bool a1, .bool a2, .bool a4] 63) _ (by simp; omega)))
  have HU6 := Lib.hid (((Below.heap_alloc _ (.cells #[.bool a0, .bool false, .bool a1, .bool a2, .bool a4] 63) _ (by simp; omega)).trans (Below.heap_alloc w5 (.cells #[.int .i64 x1, .int .i64 x4, .int .i64 x2, .int .i64 x3, .int .i64 x5] 62) _ hlu)).trans HU5.out)
  have HB6 := Lib.hid ((HB5.out.alloc HB5.out.size (.cells #[.int .i64 x1, .int .i64 x4, .int .i64 x2, .int .i64 x3, .int .i64 x5] 62)).alloc (by have := HB5.out.size; simp; omega) (.cells #[.bool a0, .bool false, .bool a1, .bool a2, .bool a4] 63))
  clear HO5 HU5 HF5 HB5 m0 m1 m2 m3 m4 m5 m6 u0 u1 u2 u4 f1 hlw hlu hlf
  generalize (w5.alloc (.cells #[.int .i64 x1, .int .i64 x4, .int .i64 x2, .int .i64 x3, .int .i64 x5] 62)).alloc (.cells #[.bool a0, .bool false, .bool a1, .bool a2, .bool a4] 63) = W6 at *
  generalize w5.heap.size = vb at *
  have HVL : Hid (VS.length = 5) := by show _ = _; rw [HVS.out]; rfl
  have HHL : Hid (HS.length = 5) := by show _ = _; rw [HHS.out]; rfl
  have HAL := Lib.hid (accP_len VS HS (fun v hv => (HVB.out v hv).2) (fun v hv => (HVB.out v hv).1))
  clear HVS HHS
  go_wp2_with fail
  go_loopw [4, 11] (fun s i wr => ∃ (k : Nat) (s' : ByteArray), k ≤ 5 ∧ i = .int .i64 k ∧ s = .string s' ∧ Hid (s' = bs (AB ++ accP VS HS k)) ∧ Hid (wr.heap[vb]? = some (.cells (VS.map (Value.int .i64)).toArray 62)) ∧ Hid (wr.heap[vb + 1]? = some (.cells (HS.map Value.bool).toArray 63)) ∧
    Hid (OpAt wr w.heap.size 0 ⟨x0, x1, x2, x3, x4, x5, x6⟩) ∧ Hid (wr.heap[ub]? = some (.cells #[.bool a0, .bool a1, .bool a2, .bool a3, .bool a4, .bool a5] 59)) ∧ Hid (Below w.heap.size w wr)) (fun _ i _ => 5 - (intOf i).toNat)
  case atStart => exact ⟨0, _, by omega, rfl, rfl, by show _ = _; simp [accP], HV6.out, HH6.out, HO6.out, HU6.out, HB6.out⟩
  case round =>
    obtain ⟨k, s', hk, rfl, rfl, HE, HV, HH, HO, HU, HW⟩ := hrel
    clear HV6 HH6 HO6 HU6 HB6
    have hsz : s'.size ≤ 2000 := by
      rw [HE.out, bs_size, List.length_append]
      have h1 := HAL.out k
      have h2 := hsAB
      rw [bs_size] at h2
      omega
    by_cases hlt : k < 5
    · have hki : (k : Int) < 5 := by omega
      have hkh : k < HS.length := by rw [HHL.out]; exact hlt
      have hkv : k < VS.length := by rw [HVL.out]; exact hlt
      have hc : wr.cell? ⟨vb + 1, k, none⟩ = some (.bool (HS.getD k false)) := by
        rw [cell_of_row _ _ _ _ _ _ HH.out, List.getElem?_toArray, List.getElem?_map, getD_at false HS k hkh]; rfl
      have hv : wr.cell? ⟨vb, k, none⟩ = some (.int .i64 (VS.getD k 0)) := by
        rw [cell_of_row _ _ _ _ _ _ HV.out, List.getElem?_toArray, List.getElem?_map, getD_at 0 VS k hkv]; rfl
      have hbv := HVB.out _ (getD_mem 0 VS k hkv)
      have HAS : Hid (accP VS HS (k + 1) = accP VS HS k ++ (if HS.getD k false then 32 :: decL (VS.getD k 0).toNat else [])) := rfl
      clear hkh hkv
      generalize VS.getD k 0 = x at *
      generalize HS.getD k false = hb at *
      cases hb
      · rw [if_neg (by decide), List.append_nil] at HAS
        go_wp2_with fail
        go_roundw
        case rel => exact ⟨k + 1, _, by omega, by go_num, rfl, by show _ = _; rw [HAS.out]; exact HE.out, HV.out, HH.out, HO.out, HU.out, HW.out⟩
        case measure => simp [intOf]; omega
      · rw [if_pos rfl] at HAS
        have HNK := Lib.hid (num_ok x hbv.1 hbv.2 wr)
        have hdx : (bs (decL x.toNat)).size ≤ 10 := by
          rw [bs_size]
          have := numL_le x hbv.2
          unfold numL at this
          rw [if_neg (by omega)] at this
          exact this
        have hs1 := sz_word (bs (decL x.toNat))
        generalize decL x.toNat = dx at *
        go_wp2_with fail
        refine HNK.out.mono ?_
        rintro e w7 ⟨rfl, hb7⟩
        have HV7 := Lib.hid ((hb7.block _ (heap_lt HV.out)).trans HV.out)
        have HH7 := Lib.hid ((hb7.block _ (heap_lt HH.out)).trans HH.out)
        have HO7 := Lib.hid (HO.out.keep (hb7.block _ (World.block_lt_of_cell? _ _ HO.out.c0)))
        have HU7 := Lib.hid ((hb7.block _ (heap_lt HU.out)).trans HU.out)
        have HW7 := Lib.hid (below_then HW.out HW.out.size hb7)
        clear hb7 HV HH HO HU HW HNK hc hv
        go_wp2_with fail
        go_roundw
        case rel => exact ⟨k + 1, _, by omega, by go_num, rfl, by show _ = _; rw [HE.out, add_word, HAS.out, List.append_assoc], HV7.out, HH7.out, HO7.out, HU7.out, HW7.out⟩
        case measure => simp [intOf]; omega
    · obtain rfl : k = 5 := by omega
      obtain ⟨m0, m1, m2, m3, m4, m5, m6⟩ := opAt_cells HO.out
      have u5 : wr.cell? ⟨ub, 5, none⟩ = some (.bool a5) := by rw [cell_of_row _ _ _ _ _ _ HU.out]; rfl
      clear m0 m1 m2 m3 m4 m5
      have hac := HAC.out
      rw [List.append_assoc] at hac
      cases a5
      · have hs : s' = bs OL := by rw [← hac, if_neg (by decide), List.append_nil]; exact HE.out
        subst hs
        go_wp2_with fail
        go_ret2
        exact HR.out _ _ ⟨rfl, HW.out⟩
      · have hs : s' ++ ((⟨#[32]⟩ : ByteArray) ++ bs QT) = bs OL := by rw [HE.out, add_word, ← hac, if_pos rfl, List.append_assoc]
        have hqt : (bs QT).size ≤ 1000 := by rw [bs_size]; exact HQL.out
        have hs1 := sz_word (bs QT)
        have HS9 := Lib.hid hs
        clear hs
        go_wp2_with fail
        refine (HQ.out _).mono ?_
        rintro e w8 ⟨rfl, hb8⟩
        have HW8 := Lib.hid (below_then HW.out HW.out.size hb8)
        clear hb8
        go_wp2_with fail
        go_ret2
        exact HR.out _ _ ⟨by rw [← HS9.out]; rfl, HW8.out⟩
set_option maxHeartbeats 0 in
set_option maxRecDepth 100000 in
theorem refOp_c (o : OpV) (w : World) (ht : OpTy o) (hp : PlainOp o) (n3 : ¬ o.kind = 3) (n4 : ¬ o.kind = 4) (n10 : o.kind = 10) : Calls Tryd.prog 9 #[opVal o] w (OpRes o w) := by
  have k1 := hp.kind.1
  have k2 := hp.kind.2
  have HPL := Lib.hid (fun W : World => plainRef o W ht.kind.1)
  rw [plainB_yes hp] at HPL
  have HB := Lib.hid (fun ob : Obj => below_box w ob)
  have HTY := Lib.hid ht
  have HPO := Lib.hid hp
  have HN := Lib.hid (opAt_new w o.kind o.slot o.pos o.num o.id o.grav o.text)
  have HWD := Lib.hid (fun W : World => wordFn o.kind k1 k2 W)
  have HUS := Lib.hid (fun W : World => usesFn o.kind W (by omega) (by omega))
  have HNL := Lib.hid (nameL_le k1 k2)
  have HAC := Lib.hid (acc_all o k1 k2)
  rw [show decide (o.kind = 3 ∨ o.kind = 4) = false from by simp; omega, show decide (o.kind = 10) = true from by simp; omega] at HAC
  have HR : Hid (∀ e w', (e = .returned (.tuple #[.string (bs (opL o)), .int .i64 0]) ∧ Below w.heap.size w w') → OpRes o w e w') := fun e w' h => ⟨by rw [plainB_yes hp]; exact h.1, h.2⟩
  have HID := Lib.hid (fun W : World => num_ok o.id ht.id.1 (by have := ht.id.2; omega) W)
  have HQ := Lib.hid (fun W : World => stringFnR o.text W (by have := hp.text; omega))
  have HVB : Hid (∀ v ∈ valsR o, 0 ≤ v ∧ v ≤ 9999999999) := fun v hv => by
    have h1 := hp.slot; have h2 := hp.pos; have h3 := hp.num; have h4 := ht.id; have h5 := ht.grav
    simp only [valsR, List.mem_cons, List.not_mem_nil, or_false] at hv
    rcases hv with rfl | rfl | rfl | rfl | rfl <;> omega
  have HDI : Hid ((decL o.id.toNat).length ≤ 10) := by
    have := numL_le o.id (by have := ht.id.2; omega)
    unfold numL at this
    rw [if_neg (by have := ht.id.1; omega)] at this
    exact this
  have HQL : Hid ((quoteL o.text).length ≤ 1000) := by have := hp.text; show _ ≤ _; rw [quoteL_len]; omega
  unfold UsesRes usesVal at HUS
  unfold StrRes at HWD HQ
  have HVS : Hid (valsR o = [o.slot, o.id, o.pos, o.num, o.grav]) := rfl
  have HHS : Hid (hasR o true = [useB o.kind 0, true, useB o.kind 1, useB o.kind 2, useB o.kind 4]) := rfl
  have HAB : Hid (accB o false = nameL o.kind) := by unfold accB; rfl
  have hx4 : wrap64 o.id = o.id := by have := ht.id; unfold wrap64; omega
  have hx5 : wrap64 o.grav = o.grav := by have := ht.grav; unfold wrap64; omega
  generalize accB o false = AB at *
  generalize hasR o true = HS at *
  generalize valsR o = VS at *
  generalize quoteL o.text = QT at *
  generalize opL o = OL at *
  generalize nameL o.kind = NM at *
  generalize hidl : decL o.id.toNat = DI at *
  generalize useB o.kind 0 = a0 at *
  generalize useB o.kind 1 = a1 at *
  generalize useB o.kind 2 = a2 at *
  generalize useB o.kind 3 = a3 at *
  generalize useB o.kind 4 = a4 at *
  generalize useB o.kind 5 = a5 at *
  have hid0 := ht.id.1
  have hid1 := ht.id.2
  have hgr0 := ht.grav.1
  have hgr1 := ht.grav.2
  have H3 : Hid ((o.kind == 3) = false) := by show _ = _; simpa using n3
  have H4 : Hid ((o.kind == 4) = false) := by show _ = _; simpa using n4
  have H10 : Hid ((o.kind == 10) = true) := by show _ = _; simpa using n10
  clear hp ht n3 n4 n10
  obtain ⟨x0, x1, x2, x3, x4, x5, x6⟩ := o
  dsimp only at *
  go_enter Tryd.func9, Tryd.ntmps9
  go_wp2_with fail
  refine (HPL.out _).mono ?_
  rintro e w1 ⟨rfl, hb⟩
  have HB1 := Lib.hid (below_then (HB.out _) (by simp) hb)
  have HO1 := Lib.hid (HN.out.keep (hb.block w.heap.size (by simp)))
  obtain ⟨m0, m1, m2, m3, m4, m5, m6⟩ := opAt_cells HO1.out
  clear hb HB HN HPL m1 m2 m3 m4 m5 m6
  go_wp2_with fail
  refine (HWD.out _).mono ?_
  rintro e w2 ⟨rfl, hb⟩
  have HB2 := Lib.hid (below_then HB1.out HB1.out.size hb)
  have HO2 := Lib.hid (HO1.out.keep (hb.block _ (World.block_lt_of_cell? _ _ HO1.out.c0)))
  obtain ⟨m0, m1, m2, m3, m4, m5, m6⟩ := opAt_cells HO2.out
  clear hb HB1 HO1 HWD m1 m2 m3 m4 m5 m6
  go_wp2_with fail
  refine (HUS.out _).mono ?_
  rintro e w3 ⟨rfl, hg⟩
  have hq : w.heap.size < w2.heap.size := World.block_lt_of_cell? _ _ m0
  have HB3 : Hid (Below w.heap.size w (w3.alloc (.cells #[.bool a0, .bool a1, .bool a2, .bool a3, .bool a4, .bool a5] 59))) := (below_grown HB2.out hg HB2.out.size).alloc (by have := hg.size; omega) _
  have HO3 := Lib.hid ((HO2.out.grown hg).keep (Below.heap_alloc w3 (.cells #[.bool a0, .bool a1, .bool a2, .bool a3, .bool a4, .bool a5] 59) _ (by have := hg.size; omega)))
  have HU3 := Lib.hid (heap_alloc_new w3 (.cells #[.bool a0, .bool a1, .bool a2, .bool a3, .bool a4, .bool a5] 59))
  clear hg HB2 HO2 HUS m0
  go_upto_region 5 with fail
  generalize w3.alloc (.cells #[.bool a0, .bool a1, .bool a2, .bool a3, .bool a4, .bool a5] 59) = W3 at *
  generalize w3.heap.size = ub at *
  obtain ⟨m0, m1, m2, m3, m4, m5, m6⟩ := opAt_cells HO3.out
  have h3 := H3.out
  have h4 := H4.out
  have h10 := H10.out
  go_upto_region 6 with fail
  have hlw : w.heap.size < W3.heap.size := World.block_lt_of_cell? _ _ m0
  have hlu := heap_lt HU3.out
  have HO4 := Lib.hid (HO3.out.keep (Below.heap_alloc W3 (.cells #[.bool false, .bool true] 61) _ hlw))
  have HU4 := Lib.hid ((Below.heap_alloc W3 (.cells #[.bool false, .bool true] 61) _ hlu).trans HU3.out)
  have HF4 := Lib.hid (heap_alloc_new W3 (.cells #[.bool false, .bool true] 61))
  have HB4 := Lib.hid (HB3.out.alloc HB3.out.size (.cells #[.bool false, .bool true] 61))
  clear HO3 HU3 HB3 m0 m1 m2 m3 m4 m5 m6 hlw hlu
  generalize W3.alloc (.cells #[.bool false, .bool true] 61) = W4 at *
  generalize W3.heap.size = fb at *
  have hsNM : (bs NM).size ≤ 1000 := by rw [bs_size]; exact HNL.out
  have f0 : W4.cell? ⟨fb, 0, none⟩ = some (.bool false) := by rw [cell_of_row _ _ _ _ _ _ HF4.out]; rfl
  go_upto_region 9 with fail
  have HB5 := HB4
  have HO5 := HO4
  have HU5 := HU4
  have HF5 := HF4
  clear HB4 HO4 HU4 HF4 f0
  generalize W4 = w5 at *
  rw [← HAB.out]
  have hsAB : (bs AB).size ≤ 1011 := by
    rw [bs_size, HAB.out]
    have h1 := HNL.out
    have h2 := HDI.out
    first | (rw [List.length_append, List.length_cons]; omega) | omega
  obtain ⟨m0, m1, m2, m3, m4, m5, m6⟩ := opAt_cells HO5.out
  have u0 : w5.cell? ⟨ub, 0, none⟩ = some (.bool a0) := by rw [cell_of_row _ _ _ _ _ _ HU5.out]; rfl
  have u1 : w5.cell? ⟨ub, 1, none⟩ = some (.bool a1) := by rw [cell_of_row _ _ _ _ _ _ HU5.out]; rfl
  have u2 : w5.cell? ⟨ub, 2, none⟩ = some (.bool a2) := by rw [cell_of_row _ _ _ _ _ _ HU5.out]; rfl
  have u4 : w5.cell? ⟨ub, 4, none⟩ = some (.bool a4) := by rw [cell_of_row _ _ _ _ _ _ HU5.out]; rfl
  have f1 : w5.cell? ⟨fb, 1, none⟩ = some (.bool true) := by rw [cell_of_row _ _ _ _ _ _ HF5.out]; rfl
  have hlw : w.heap.size < w5.heap.size := World.block_lt_of_cell? _ _ m0
  have hlu := heap_lt HU5.out
  have hlf := heap_lt HF5.out
  go_upto_region 11 with fail
  have HV6 : Hid (((w5.alloc (.cells #[.int .i64 x1, .int .i64 x4, .int .i64 x2, .int .i64 x3, .int .i64 x5] 62)).alloc (.cells #[.bool a0, .bool true, .bool a1, .bool a2, .bool a4] 63)).heap[w5.heap.size]? = some (.cells (VS.map (Value.int .i64)).toArray 62)) := by
    show _ = _
    rw [Below.heap_alloc _ _ _ (by simp), heap_alloc_new, HVS.out]; rfl
  have HH6 : Hid (((w5.alloc (.cells #[.int .i64 x1, .int .i64 x4, .int .i64 x2, .int .i64 x3, .int .i64 x5] 62)).alloc (.cells #[.bool a0, .bool true, .bool a1, .bool a2, .bool a4] 63)).heap[w5.heap.size + 1]? = some (.cells (HS.map Value.bool).toArray 63)) := by
    show _ = _
    rw [HHS.out]
    have := heap_alloc_new (w5.alloc (.cells #[.int .i64 x1, .int .i64 x4, .int .i64 x2, .int .i64 x3, .int .i64 x5] 62)) (.cells #[.bool a0, .bool true, .bool a1, .bool a2, .bool a4] 63)
    simpa using this
  have HO6 := Lib.hid ((HO5.out.keep (Below.heap_alloc w5 (.cells #[.int .i64 x1, .int .i64 x4, .int .i64 x2, .int .i64 x3, .int .i64 x5] 62) _ hlw)).keep (Below.heap_alloc _ (.cells #[.bool a0, .bool true, .bool a1, .bool a2, .bool a4] 63) _ (by simp; omega)))
  have HU6 := Lib.hid (((Below.heap_alloc _ (.cells #[.bool a0, .bool true, .bool a1, .bool a2, .bool a4] 63) _ (by simp; omega)).trans (Below.heap_alloc w5 (.cells #[.int .i64 x1, .int .i64 x4, .int .i64 x2, .int .i64 x3, .int .i64 x5] 62) _ hlu)).trans HU5.out)
  have HB6 := Lib.hid ((HB5.out.alloc HB5.out.size (.cells #[.int .i64 x1, .int .i64 x4, .int .i64 x2, .int .i64 x3, .int .i64 x5] 62)).alloc (by have := HB5.out.size; simp; omega) (.cells #[.bool a0, .bool true, .bool a1, .bool a2, .bool a4] 63))
  clear HO5 HU5 HF5 HB5 m0 m1 m2 m3 m4 m5 m6 u0 u1 u2 u4 f1 hlw hlu hlf
  generalize (w5.alloc (.cells #[.int .i64 x1, .int .i64 x4, .int .i64 x2, .int .i64 x3, .int .i64 x5] 62)).alloc (.cells #[.bool a0, .bool true, .bool a1, .bool a2, .bool a4] 63) = W6 at *
  generalize w5.heap.size = vb at *
  have HVL : Hid (VS.length = 5) := by show _ = _; rw [HVS.out]; rfl
  have HHL : Hid (HS.length = 5) := by show _ = _; rw [HHS.out]; rfl
  have HAL := Lib.hid (accP_len VS HS (fun v hv => (HVB.out v hv).2) (fun v hv => (HVB.out v hv).1))
  clear HVS HHS
  go_wp2_with fail
  go_loopw [4, 11] (fun s i wr => ∃ (k : Nat) (s' : ByteArray), k ≤ 5 ∧ i = .int .i64 k ∧ s = .string s' ∧ Hid (s' = bs (AB ++ accP VS HS k)) ∧ Hid (wr.heap[vb]? = some (.cells (VS.map (Value.int .i64)).toArray 62)) ∧ Hid (wr.heap[vb + 1]? = some (.cells (HS.map Value.bool).toArray 63)) ∧
    Hid (OpAt wr w.heap.size 0 ⟨x0, x1, x2, x3, x4, x5, x6⟩) ∧ Hid (wr.heap[ub]? = some (.cells #[.bool a0, .bool a1, .bool a2, .bool a3, .bool a4, .bool a5] 59)) ∧ Hid (Below w.heap.size w wr)) (fun _ i _ => 5 - (intOf i).toNat)
  case atStart => exact ⟨0, _, by omega, rfl, rfl, by show _ = _; simp [accP], HV6.out, HH6.out, HO6.out, HU6.out, HB6.out⟩
  case round =>
    obtain ⟨k, s', hk, rfl, rfl, HE, HV, HH, HO, HU, HW⟩ := hrel
    clear HV6 HH6 HO6 HU6 HB6
    have hsz : s'.size ≤ 2000 := by
      rw [HE.out, bs_size, List.length_append]
      have h1 := HAL.out k
      have h2 := hsAB
      rw [bs_size] at h2
      omega
    by_cases hlt : k < 5
    · have hki : (k : Int) < 5 := by omega
      have hkh : k < HS.length := by rw [HHL.out]; exact hlt
      have hkv : k < VS.length := by rw [HVL.out]; exact hlt
      have hc : wr.cell? ⟨vb + 1, k, none⟩ = some (.bool (HS.getD k false)) := by
        rw [cell_of_row _ _ _ _ _ _ HH.out, List.getElem?_toArray, List.getElem?_map, getD_at false HS k hkh]; rfl
      have hv : wr.cell? ⟨vb, k, none⟩ = some (.int .i64 (VS.getD k 0)) := by
        rw [cell_of_row _ _ _ _ _ _ HV.out, List.getElem?_toArray, List.getElem?_map, getD_at 0 VS k hkv]; rfl
      have hbv := HVB.out _ (getD_mem 0 VS k hkv)
      have HAS : Hid (accP VS HS (k + 1) = accP VS HS k ++ (if HS.getD k false then 32 :: decL (VS.getD k 0).toNat else [])) := rfl
      clear hkh hkv
      generalize VS.getD k 0 = x at *
      generalize HS.getD k false = hb at *
      cases hb
      · rw [if_neg (by decide), List.append_nil] at HAS
        go_wp2_with fail
        go_roundw
        case rel => exact ⟨k + 1, _, by omega, by go_num, rfl, by show _ = _; rw [HAS.out]; exact HE.out, HV.out, HH.out, HO.out, HU.out, HW.out⟩
        case measure => simp [intOf]; omega
      · rw [if_pos rfl] at HAS
        have HNK := Lib.hid (num_ok x hbv.1 hbv.2 wr)
        have hdx : (bs (decL x.toNat)).size ≤ 10 := by
          rw [bs_size]
          have := numL_le x hbv.2
          unfold numL at this
          rw [if_neg (by omega)] at this
          exact this
        have hs1 := sz_word (bs (decL x.toNat))
        generalize decL x.toNat = dx at *
        go_wp2_with fail
        refine HNK.out.mono ?_
        rintro e w7 ⟨rfl, hb7⟩
        have HV7 := Lib.hid ((hb7.block _ (heap_lt HV.out)).trans HV.out)
        have HH7 := Lib.hid ((hb7.block _ (heap_lt HH.out)).trans HH.out)
        have HO7 := Lib.hid (HO.out.keep (hb7.block _ (World.block_lt_of_cell? _ _ HO.out.c0)))
        have HU7 := Lib.hid ((hb7.block _ (heap_lt HU.out)).trans HU.out)
        have HW7 := Lib.hid (below_then HW.out HW.out.size hb7)
        clear hb7 HV HH HO HU HW HNK hc hv
        go_wp2_with fail
        go_roundw
        case rel => exact ⟨k + 1, _, by omega, by go_num, rfl, by show _ = _; rw [HE.out, add_word, HAS.out, List.append_assoc], HV7.out, HH7.out, HO7.out, HU7.out, HW7.out⟩
        case measure => simp [intOf]; omega
    · obtain rfl : k = 5 := by omega
      obtain ⟨m0, m1, m2, m3, m4, m5, m6⟩ := opAt_cells HO.out
      have u5 : wr.cell? ⟨ub, 5, none⟩ = some (.bool a5) := by rw [cell_of_row _ _ _ _ _ _ HU.out]; rfl
      clear m0 m1 m2 m3 m4 m5
      have hac := HAC.out
      rw [List.append_assoc] at hac
      cases a5
      · have hs : s' = bs OL := by rw [← hac, if_neg (by decide), List.append_nil]; exact HE.out
        subst hs
        go_wp2_with fail
        go_ret2
        exact HR.out _ _ ⟨rfl, HW.out⟩
      · have hs : s' ++ ((⟨#[32]⟩ : ByteArray) ++ bs QT) = bs OL := by rw [HE.out, add_word, ← hac, if_pos rfl, List.append_assoc]
        have hqt : (bs QT).size ≤ 1000 := by rw [bs_size]; exact HQL.out
        have hs1 := sz_word (bs QT)
        have HS9 := Lib.hid hs
        clear hs
        go_wp2_with fail
        refine (HQ.out _).mono ?_
        rintro e w8 ⟨rfl, hb8⟩
        have HW8 := Lib.hid (below_then HW.out HW.out.size hb8)
        clear hb8
        go_wp2_with fail
        go_ret2
        exact HR.out _ _ ⟨by rw [← HS9.out]; rfl, HW8.out⟩
/-- Op, by the reference. -/
theorem refOp (o : OpV) (w : World) (ht : OpTy o) : Calls Tryd.prog 9 #[opVal o] w (OpRes o w) := by
  by_cases hp : PlainOp o
  · by_cases n3 : o.kind = 3
    · exact refOp_a o w ht hp n3 (by omega) (by omega)
    · by_cases n4 : o.kind = 4
      · exact refOp_b o w ht hp n3 n4 (by omega)
      · by_cases n10 : o.kind = 10
        · exact refOp_c o w ht hp n3 n4 n10
        · exact refOp_d o w ht hp n3 n4 n10
  · exact refOp_no o w ht.kind.1 hp
end Go.Proofs.YtcbhfhmpajamoaaDoor
