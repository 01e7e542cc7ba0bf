/- Walk: text.Result of a result without an error. -/
import Derived.Test.YtcbhfhmpajamoaaDoorR4
namespace Go.Proofs.YtcbhfhmpajamoaaDoor
open Go.RowKit

theorem deltaL_le (ps : List PieceV) (hl : ps.length ≤ 20) (ht : ∀ p ∈ ps, p.text.size ≤ 1000) (h0 : chkD ps 0 0 = 0) : (deltaL ps).length ≤ 60000 := by
  have := joinL_le (ps.map pieceL) 2001 (fun l hl' => by
    obtain ⟨p, hp, rfl⟩ := List.mem_map.1 hl'
    exact pieceL_le ((chk_all ps 0 0 (by omega) (by omega) h0 p hp).1) ((chk_all ps 0 0 (by omega) (by omega) h0 p hp).2) (ht p hp))
  rw [List.length_map] at this
  have h2 : ps.length * (2001 + 1) ≤ 20 * 2002 := Nat.mul_le_mul (by omega) (by omega)
  unfold deltaL
  omega
theorem resParts_eq (r : ResV) (ps : List PieceV) : resParts r ps = [[111, 107]] ++ decs (numsA r) ++ [quoteL r.text] ++ decs (numsB r) ++ (if deltaL ps = [] then [] else [deltaL ps]) := rfl
def upd (F : Nat → Option Obj) (q : Nat) (o : Obj) : Nat → Option Obj := fun p => if p = q then some o else F p
theorem OutS.alloc {w W : World} {F : Nat → Option Obj} {ob : Nat} {v : Value} {ls : List (List Int)} (h : OutS w W F ob v ls) (o : Obj) : OutS w (W.alloc o) (upd F W.heap.size o) ob v ls := by
  have hb := h.below (below_box W o)
  refine ⟨hb.at_, hb.own, hb.ne, fun q hq => ?_, fun q o' hq => ?_, hb.bel, hb.low⟩
  · have := (World.ownsRow.lt h.own q hq).2
    unfold upd
    rw [if_neg (by omega)]
    exact hb.far q hq
  · unfold upd at hq
    by_cases hqq : q = W.heap.size
    · rw [if_pos hqq] at hq
      cases hq
      subst hqq
      exact ⟨heap_alloc_new _ _, by have := heap_lt h.at_; omega⟩
    · rw [if_neg hqq] at hq
      exact hb.kept q o' hq
theorem OutS.drop {w W W' : World} {F : Nat → Option Obj} {ob : Nat} {v v' : Value} {ls ls' : List (List Int)} {o : Obj} (h0 : OutS w W F ob v ls) (h : OutS w W' (upd F W.heap.size o) ob v' ls') : OutS w W' F ob v' ls' :=
  h.sub fun q o' hq => by
    have := heap_lt (h0.kept q o' hq).1
    unfold upd
    rw [if_neg (by omega)]
    exact hq
def resF (rb xb : Nat) (r : ResV) (A : Option Addr) (n c : Nat) : Nat → Option Obj := upd (upd (fun _ => none) rb (resBox r A n c)) xb (itemBox r A n c)
abbrev okBox : Obj := .cells #[.string (bs [111, 107])] 9
theorem outS_start (w : World) (r : ResV) (A : Option Addr) (n c : Nat) :
    OutS w ((((w.alloc (resBox r A n c)).alloc (itemBox r A n c)).alloc okBox).alloc (.cells #[.slice (some ⟨w.heap.size + 2, 0, none⟩) 1 1] 51)) (resF w.heap.size (w.heap.size + 1) r A n c) (w.heap.size + 3) (.slice (some ⟨w.heap.size + 2, 0, none⟩) 1 1) [[111, 107]] := by
  have h2 : Below w.heap.size w ((w.alloc (resBox r A n c)).alloc (itemBox r A n c)) := (below_box w _).alloc (by simp) _
  have h3 : Below w.heap.size w (((w.alloc (resBox r A n c)).alloc (itemBox r A n c)).alloc okBox) := h2.alloc (by simp; omega) _
  have e2 : ((w.alloc (resBox r A n c)).alloc (itemBox r A n c)).heap.size = w.heap.size + 2 := by simp
  have e3 : (((w.alloc (resBox r A n c)).alloc (itemBox r A n c)).alloc okBox).heap.size = w.heap.size + 3 := by simp
  have ho := (World.ownsRow_lit (base := w.heap.size) (e := 9) (size := 1) ((w.alloc (resBox r A n c)).alloc (itemBox r A n c)) #[.string (bs [111, 107])] 1 (by simp; omega) (by unfold maxLen; omega) rfl).alloc (.cells #[.slice (some ⟨w.heap.size + 2, 0, none⟩) 1 1] 51)
  rw [e2] at ho
  refine ⟨?_, ho, by simp [Value.ownBlock], ?_, ?_, h3.alloc (by simp; omega) _, by omega⟩
  · rw [← e3]; exact heap_alloc_new _ _
  · intro q hq
    have hq : w.heap.size + 2 = q := by simpa [Value.ownBlock] using hq
    subst hq
    simp [resF, upd]
  · intro q o hq
    unfold resF upd at hq
    by_cases h1 : q = w.heap.size + 1
    · rw [if_pos h1] at hq; cases hq; subst h1
      refine ⟨?_, by omega⟩
      rw [Below.heap_alloc _ _ _ (by simp), Below.heap_alloc _ _ _ (by simp)]
      have := heap_alloc_new (w.alloc (resBox r A n c)) (itemBox r A n c)
      simpa using this
    · rw [if_neg h1] at hq
      by_cases h0 : q = w.heap.size
      · rw [if_pos h0] at hq; cases hq; subst h0
        refine ⟨?_, by omega⟩
        rw [Below.heap_alloc _ _ _ (by simp; omega), Below.heap_alloc _ _ _ (by simp; omega), Below.heap_alloc _ _ _ (by simp)]
        exact heap_alloc_new _ _
      · rw [if_neg h0] at hq; cases hq
theorem OutS.res {w W : World} {r : ResV} {A : Option Addr} {n c ob rb xb : Nat} {v : Value} {ls : List (List Int)} (h : OutS w W (resF rb xb r A n c) ob v ls) (hx : rb ≠ xb) :
    W.heap[rb]? = some (resBox r A n c) ∧ W.heap[xb]? = some (itemBox r A n c) :=
  ⟨(h.kept rb _ (by unfold resF upd; rw [if_neg hx, if_pos rfl])).1, (h.kept xb _ (by unfold resF upd; rw [if_pos rfl])).1⟩
theorem resCells_at {W : World} {b : Nat} {x0 x1 x2 x3 x4 : Int} {x5 : ByteArray} {x6 x7 x8 x9 x10 x11 : Int} {A : Option Addr} {n c : Nat} (h : W.heap[b]? = some (resBox ⟨x0, x1, x2, x3, x4, x5, x6, x7, x8, x9, x10, x11⟩ A n c)) :
    W.cell? ⟨b, 1, none⟩ = some (.int .i64 x1) ∧ W.cell? ⟨b, 2, none⟩ = some (.int .i64 x2) ∧ W.cell? ⟨b, 3, none⟩ = some (.int .i64 x3) ∧ W.cell? ⟨b, 4, none⟩ = some (.int .u8 x4) ∧ W.cell? ⟨b, 5, none⟩ = some (.string x5) ∧ W.cell? ⟨b, 6, none⟩ = some (.int .i64 x6) ∧ W.cell? ⟨b, 7, none⟩ = some (.int .i64 x7) ∧ W.cell? ⟨b, 8, none⟩ = some (.int .i64 x8) := by
  refine ⟨?_, ?_, ?_, ?_, ?_, ?_, ?_, ?_⟩ <;> (rw [cell_of_row _ _ _ _ _ _ h]; rfl)
theorem itemCells_at {W : World} {b : Nat} {x0 x1 x2 x3 x4 : Int} {x5 : ByteArray} {x6 x7 x8 x9 x10 x11 : Int} {A : Option Addr} {n c : Nat} (h : W.heap[b]? = some (itemBox ⟨x0, x1, x2, x3, x4, x5, x6, x7, x8, x9, x10, x11⟩ A n c)) :
    W.cell? ⟨b, 0, none⟩ = some (.int .u8 x9) ∧ W.cell? ⟨b, 1, none⟩ = some (.int .i64 x10) ∧ W.cell? ⟨b, 2, none⟩ = some (.int .i64 x11) ∧ W.cell? ⟨b, 3, none⟩ = some (.slice A n c) := by
  refine ⟨?_, ?_, ?_, ?_⟩ <;> (rw [cell_of_row _ _ _ _ _ _ h]; rfl)
set_option maxHeartbeats 0 in
set_option maxRecDepth 100000 in
theorem resultOk (r : ResV) (A : Option Addr) (c : Nat) (ps : List PieceV) (w : World) (hT : Tab w) (ht : ResTy r) (he : r.err = 0) (htx : r.text.size ≤ 1000) (hP : PiecesAt w w.heap.size A ps) (hl : ps.length ≤ 20) (hpt : ∀ p ∈ ps, p.text.size ≤ 1000) :
    Calls Tryd.prog 7 #[.agg (resCells r A ps.length c)] w (ResRes r ps w) := by
  have HOK : Hid (resOk r ps ↔ (∀ x ∈ numsA r, okN x) ∧ (∀ x ∈ numsB r, okN x) ∧ chkD ps 0 0 = 0) := by show _ ↔ _; unfold resOk; rw [if_pos he]
  have HR1 : Hid (∀ W, ¬ resOk r ps → Below w.heap.size w W → ResRes r ps w (.returned (.tuple #[.string ⟨#[]⟩, .int .i64 2])) W) := fun W h hb => resRes_no h hb
  have HR2 : Hid (∀ W, resOk r ps → Below w.heap.size w W → ResRes r ps w (.returned (.tuple #[.string (bs (joinL (resParts r ps))), .int .i64 0])) W) := fun W h hb => resRes_yes h (by unfold resL; rw [if_pos he]) hb
  have HS := Lib.hid (outS_start w r A ps.length c)
  have HT := Lib.hid hT
  have HD := Lib.hid (fun (W : World) (h : Below w.heap.size w W) => deltaText A c ps W (hT.below h) (hP.below h h.size) hl hpt)
  have HDL := Lib.hid (deltaL_le ps hl hpt)
  have HPT := Lib.hid (resParts_eq r ps)
  have HTY := Lib.hid ht
  clear hT ht hP hpt
  obtain ⟨x0, x1, x2, x3, x4, x5, x6, x7, x8, x9, x10, x11⟩ := r
  dsimp only at he htx
  subst he
  unfold DeltaRes at HD
  generalize ps.length = n at *
  have hg0 := HTY.out.grav.1
  have hg1 := HTY.out.grav.2
  have hk0 := HTY.out.ik.1
  have hk1 := HTY.out.ik.2
  dsimp only at hg0 hg1 hk0 hk1
  have hrx : w.heap.size ≠ w.heap.size + 1 := by omega
  go_enter Tryd.func7, Tryd.ntmps7
  go_upto_region 8 with fail
  generalize hW3 : World.alloc (World.alloc (World.alloc (World.alloc w _) _) _) _ = W3
  have H3 : Hid (OutS w W3 (resF w.heap.size (w.heap.size + 1) ⟨0, x1, x2, x3, x4, x5, x6, x7, x8, x9, x10, x11⟩ A n c) (w.heap.size + 1 + 1 + 1) (.slice (some ⟨w.heap.size + 1 + 1, 0, none⟩) 1 1) [[111, 107]]) := by
    show OutS _ _ _ _ _ _
    rw [← hW3]; exact HS.out
  clear hW3 HS
  generalize w.heap.size + 1 + 1 + 1 = ob at *
  generalize (Value.slice (some ⟨w.heap.size + 1 + 1, 0, none⟩) 1 1) = v3 at *
  generalize hrb : w.heap.size = rb at *
  generalize hxb : rb + 1 = xb at *
  have HRB := Lib.hid hrb
  clear hrb hxb
  have HPA := Lib.hid (putFn W3.heap.size 4 [x1, x2, x3, x4] _ ob v3 _ w (W3.alloc (argsBox [x1, x2, x3, x4])) (HT.out) (H3.out.alloc _) (by unfold upd; rw [if_pos rfl]) (by simp) (by simp))
  unfold PutRes at HPA
  obtain ⟨r1, r2, r3, r4, -, -, -, -⟩ := resCells_at (H3.out.res hrx).1
  go_wp2_with fail
  refine HPA.out.mono ?_
  rintro e w1 hput
  by_cases hA : ∀ x ∈ [x1, x2, x3, x4], 0 ≤ x ∧ x ≤ 9999999999
  case neg =>
    rw [if_neg hA] at hput
    obtain ⟨rfl, hb⟩ := hput
    rw [HRB.out] at hb
    have HB := Lib.hid hb
    clear hb
    go_wp2_with fail
    go_ret2
    exact HR1.out _ (fun h => hA (HOK.out.1 h).1) HB.out
  rw [if_pos hA] at hput
  obtain ⟨rfl, v5, hS⟩ := hput
  have H5 := Lib.hid (H3.out.drop hS)
  have HA := Lib.hid hA
  clear hS hA HPA H3 r1 r2 r3 r4
  generalize hl5 : [[111, 107]] ++ [x1, x2, x3, x4].map (fun x => decL x.toNat) = L5 at *
  have hn5 : L5.length ≤ 5 := by rw [← hl5]; exact Nat.le_refl 5
  have HL5 := Lib.hid hl5
  clear hl5
  have HQ := Lib.hid (quoteFn x5 w1.drew (by omega))
  unfold StrRes at HQ
  obtain ⟨-, -, -, -, r5, -, -, -⟩ := resCells_at (H5.out.res hrx).1
  obtain ⟨i0, hi, hz0, hz1, hz2⟩ := info_parts str_info
  have hcl := H5.out.cell
  go_upto_region 10 with fail
  go_region_law (first
    | (go_simp; go_at_call 16; refine HQ.out.mono ?_; rintro e wz ⟨rfl, hbz⟩; (have HO2 := Lib.hid (H5.out.drew.below hbz)); clear hbz; have hcl2 := HO2.out.cell; have hcl3 := (HO2.out.below (below_box wz (.cells #[.string (bs (quoteL x5))] 9))).cell)
    | (refine step_append_lies _ rfl (.tmp 46) (.tmp 50) 51 rfl w.heap.size 9 i0 (.string ⟨#[]⟩) 1 16 Tryd.underlying51 hi hz0 hz1 hz2 rfl (by decide) _ _ _ (by simp [Act.eval, Act.put]) (HO2.out.own.alloc _) _ 1 1 [.string (bs (quoteL x5))] (by simp [Act.eval, Act.put]) rfl (news_val _ _ _) (one_str _) (by omega) (by unfold maxLen; omega) (by omega) (by simp; have := HO2.out.bel.size; omega) _ rfl ?_; intro g cap w11 hown hgrow hat _; obtain ⟨hc1, hc2, hS⟩ := HO2.out.push (s := quoteL x5) hown hgrow (by simpa using hat); (have H6 := Lib.hid hS); clear hS hown hgrow hat))
  all_goals
    clear H5 hcl hcl2 hcl3 HO2 HQ r5 hc1 hc2
    generalize (w11.setCell ⟨ob, 0, none⟩ (.slice (some ⟨g, 0, none⟩) (L5.length + 1) cap)) = W6 at *
    generalize (Value.slice (some ⟨g, 0, none⟩) (L5.length + 1) cap) = v6 at *
    have hn6 : (L5 ++ [quoteL x5]).length ≤ 6 := by rw [List.length_append]; simp; omega
    generalize hl6 : L5 ++ [quoteL x5] = L6 at *
    have HL6 := Lib.hid hl6
    clear hl6
    obtain ⟨-, -, -, -, -, r6, r7, r8⟩ := resCells_at (H6.out.res hrx).1
    obtain ⟨k0, k1, k2, -⟩ := itemCells_at (H6.out.res hrx).2
    have HPB := Lib.hid (putFn W6.heap.size 6 [x6, x7, x8, x9, x10, x11] _ ob v6 _ w (W6.alloc (argsBox [x6, x7, x8, x9, x10, x11])) (HT.out) (H6.out.alloc _) (by unfold upd; rw [if_pos rfl]) (by simp) (by omega))
    unfold PutRes at HPB
    go_wp2_with fail
    refine HPB.out.mono ?_
    rintro e w8 hput
    by_cases hB : ∀ x ∈ [x6, x7, x8, x9, x10, x11], 0 ≤ x ∧ x ≤ 9999999999
    case neg =>
      rw [if_neg hB] at hput
      obtain ⟨rfl, hb⟩ := hput
      rw [HRB.out] at hb
      have HB := Lib.hid hb
      clear hb
      go_wp2_with fail
      go_ret2
      exact HR1.out _ (fun h => hB (HOK.out.1 h).2.1) HB.out
    rw [if_pos hB] at hput
    obtain ⟨rfl, v8, hS⟩ := hput
    have H8 := Lib.hid (H6.out.drop hS)
    have HB := Lib.hid hB
    clear hS hB HPB H6 r6 r7 r8 k0 k1 k2
    generalize hl8 : L6 ++ [x6, x7, x8, x9, x10, x11].map (fun x => decL x.toNat) = L8 at *
    have hn8 : L8.length ≤ 12 := by rw [← hl8, List.length_append]; simp; omega
    have hp8 : 0 < L8.length := by rw [← hl8, List.length_append]; simp
    have HL8 := Lib.hid hl8
    clear hl8
    obtain ⟨-, -, -, k3⟩ := itemCells_at (H8.out.res hrx).2
    have HD8 := Lib.hid (HD.out w8 (by first | exact H8.out.bel | (rw [← HRB.out]; exact H8.out.bel)))
    go_wp2_with fail
    refine HD8.out.mono ?_
    rintro e w9 ⟨hdl, hb9⟩
    have H9 := Lib.hid (H8.out.below hb9)
    clear hb9 H8 HD8 HD k3
    by_cases hck : chkD ps 0 0 = 0
    case neg =>
      rw [if_neg hck] at hdl
      subst hdl
      have hno := fun h => hck (HOK.out.1 h).2.2
      generalize chkD ps 0 0 = ck at *
      have hne : (ck != 0) = true := by simpa using hck
      have HB9 := Lib.hid H9.out.bel
      rw [HRB.out] at HB9
      clear hck
      go_wp2_with fail
      go_ret2
      exact HR1.out _ hno HB9.out
    rw [if_pos hck] at hdl
    subst hdl
    have HYES := Lib.hid (HOK.out.2 ⟨HA.out, HB.out, hck⟩)
    have hdz := HDL.out hck
    have h00 : ((0 : Int) != 0) = false := by decide
    have HJ : Hid (resParts ⟨0, x1, x2, x3, x4, x5, x6, x7, x8, x9, x10, x11⟩ ps = L8 ++ (if deltaL ps = [] then [] else [deltaL ps])) := by
      show _ = _
      rw [HPT.out, ← HL8.out, ← HL6.out, ← HL5.out]; rfl
    have HBL : Hid (∀ l ∈ L8, l.length ≤ 3000) := by
      intro l hl
      rw [← HL8.out, ← HL6.out, ← HL5.out] at hl
      have hd : ∀ x : Int, 0 ≤ x ∧ x ≤ 9999999999 → (decL x.toNat).length ≤ 3000 := fun x hx => by have := dec_le x hx.1 hx.2; omega
      simp only [List.mem_append, List.mem_singleton, List.mem_map] at hl
      rcases hl with ((rfl | ⟨x, hx, rfl⟩) | rfl) | ⟨x, hx, rfl⟩
      · decide
      · exact hd x (HA.out x hx)
      · rw [quoteL_len]; omega
      · exact hd x (HB.out x hx)
    generalize resParts ⟨0, x1, x2, x3, x4, x5, x6, x7, x8, x9, x10, x11⟩ ps = RP at *
    clear hck HDL HPT HL5 HL6 HL8 HA HB
    by_cases hD : deltaL ps = []
    · rw [hD] at HJ ⊢
      rw [if_pos rfl, List.append_nil] at HJ
      have hemp : bs [] = (⟨#[]⟩ : ByteArray) := rfl
      have hcl := H9.out.cell
      have HJF := Lib.hid (joinFn w.heap.size v8 L8 w9 H9.out.own hp8 (by omega) (by
        have := joinL_le L8 3000 HBL.out
        have h2 : L8.length * (3000 + 1) ≤ 12 * 3001 := Nat.mul_le_mul (by omega) (by omega)
        omega))
      unfold StrRes at HJF
      rw [← HJ.out] at HJF
      rw [hemp]
      go_wp2_with fail
      refine HJF.out.mono ?_
      rintro e wz ⟨rfl, hbz⟩
      have HBZ := Lib.hid (below_then H9.out.bel H9.out.bel.size hbz)
      rw [HRB.out] at HBZ
      clear hbz
      go_wp2_with fail
      go_ret2
      exact HR2.out _ HYES.out HBZ.out
    · rw [if_neg hD] at HJ
      have hcl := H9.out.cell
      have hs0 : ¬ (bs (deltaL ps)).size = 0 := by rw [bs_size]; exact fun h => hD (List.eq_nil_of_length_eq_zero h)
      have hs1 : ¬ (bs (deltaL ps)).toList = [] := fun h => hs0 ((toList_nil _).1 h)
      have hs2 : (bs (deltaL ps)).toList.isEmpty = false := by rw [toList_empty]; simpa using hs0
      go_wp2_with (at_builtin; refine wpList_append_lies _ rfl _ _ 51 rfl w.heap.size 9 i0 (.string ⟨#[]⟩) 1 16 Tryd.underlying51 hi hz0 hz1 hz2 rfl (by decide) v8 L8.length (strs L8) rfl (H9.out.own.alloc _) ⟨w9.heap.size, 0, none⟩ 1 1 [.string (bs (deltaL ps))] rfl rfl (news_val _ _ _) (one_str _) (by omega) (by unfold maxLen; omega) (by omega) (by simp; have := H9.out.bel.size; omega) _ rfl ?_; intro g cap w11 hown hgrow hat _; obtain ⟨hc1, hc2, hS⟩ := H9.out.push (s := deltaL ps) hown hgrow (by simpa using hat); (have H10 := Lib.hid hS); clear hS hown hgrow hat)
      have hdl := hdz
      have hln : (L8 ++ [deltaL ps]).length = L8.length + 1 := by simp
      have HOW := H10.out.own
      rw [← HJ.out] at HOW hln
      have HJF := Lib.hid (joinFn w.heap.size _ RP _ HOW (by omega) (by omega) (by
        have := joinL_le RP 60000 (by
          intro l hl
          rw [HJ.out] at hl
          rcases List.mem_append.1 hl with hl | hl
          · have := HBL.out l hl; omega
          · simp at hl; subst hl; exact hdz)
        have h2 : RP.length * (60000 + 1) ≤ 13 * 60001 := Nat.mul_le_mul (by omega) (by omega)
        omega))
      unfold StrRes at HJF
      refine HJF.out.mono ?_
      rintro e wz ⟨rfl, hbz⟩
      have HBZ := Lib.hid (below_then H10.out.bel H10.out.bel.size hbz)
      rw [HRB.out] at HBZ
      clear hbz HOW hln
      go_wp2_with fail
      go_ret2
      exact HR2.out _ HYES.out HBZ.out
theorem textResult (r : ResV) (A : Option Addr) (c : Nat) (ps : List PieceV) (w : World) (hT : Tab w) (ht : ResTy r) (htx : r.text.size ≤ 1000) (hP : PiecesAt w w.heap.size A ps) (hl : ps.length ≤ 20) (hpt : ∀ p ∈ ps, p.text.size ≤ 1000) :
    Calls Tryd.prog 7 #[.agg (resCells r A ps.length c)] w (ResRes r ps w) := by
  by_cases he : r.err = 0
  · exact resultOk r A c ps w hT ht he htx hP hl hpt
  · exact resultErr r A c ps w hT ht he
end Go.Proofs.YtcbhfhmpajamoaaDoor
