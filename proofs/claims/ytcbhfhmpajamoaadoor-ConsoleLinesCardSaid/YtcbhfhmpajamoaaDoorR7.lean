/- Walks: the line of a call, by the program and by the reference. -/
import Derived.Test.YtcbhfhmpajamoaaDoorR6
namespace Go.Proofs.YtcbhfhmpajamoaaDoor
open Go.RowKit

def SgnRes (x : Int) (w : World) (e : Ending) (w' : World) : Prop :=
  (if -1 ≤ x ∧ x ≤ 9999999999 then e = .returned (.tuple #[.string (bs (numL x)), .bool true]) else e = .returned (.tuple #[.string ⟨#[]⟩, .bool false])) ∧ Below w.heap.size w w'
set_option maxHeartbeats 0 in
theorem signedFn (x : Int) (w : World) : Calls Tryd.prog 11 #[.int .i64 x] w (SgnRes x w) := by
  by_cases h : x = -1
  · have HR : Hid (∀ W, Below w.heap.size w W → SgnRes x w (.returned (.tuple #[.string ⟨#[45, 49]⟩, .bool true])) W) := fun W hb => ⟨by rw [if_pos (by omega)]; unfold numL; rw [if_pos h]; rfl, hb⟩
    have HB := Lib.hid (Below.refl w.heap.size w)
    subst h
    go_enter Tryd.func11, Tryd.ntmps11
    go_wp2_with fail
    go_ret2
    exact HR.out _ HB.out
  · have HR : Hid (∀ v W, (if 0 ≤ x ∧ x ≤ 9999999999 then v = Value.tuple #[.string (bs (decL x.toNat)), .bool true] else v = Value.tuple #[.string ⟨#[]⟩, .bool false]) → Below w.heap.size w W → SgnRes x w (.returned v) W) := fun v W hv hb => ⟨by
      by_cases h0 : 0 ≤ x ∧ x ≤ 9999999999
      · rw [if_pos h0] at hv
        rw [if_pos (by omega)]; unfold numL; rw [if_neg h, hv]
      · rw [if_neg h0] at hv
        rw [if_neg (by omega), hv], hb⟩
    have HN := Lib.hid (numberFn x w)
    unfold NumRes at HN
    go_enter Tryd.func11, Tryd.ntmps11
    go_wp2_with fail
    refine HN.out.mono ?_
    rintro e w1 ⟨hnum, hb1⟩
    have HB1 := Lib.hid hb1
    clear hb1
    by_cases h0 : 0 ≤ x ∧ x ≤ 9999999999
    · rw [if_pos h0] at hnum
      subst hnum
      go_wp2_with fail
      go_ret2
      exact HR.out _ _ (by rw [if_pos h0]; rfl) HB1.out
    · rw [if_neg h0] at hnum
      subst hnum
      go_wp2_with fail
      go_ret2
      exact HR.out _ _ (by rw [if_neg h0]; rfl) HB1.out
theorem args_cell (xs : List Int) (W : World) (j : Nat) (h : j < xs.length) : (W.alloc (argsBox xs)).cell? ⟨W.heap.size, j, none⟩ = some (.int .i64 (xs.getD j 0)) := by
  rw [cell_of_row _ _ _ _ _ _ (heap_alloc_new W (argsBox xs))]
  simp [List.getD_eq_getElem?_getD, h]
theorem nums_le (NS : List Int) (k : Nat) (hk : NS.length ≤ k) (h : ∀ x ∈ NS, -1 ≤ x ∧ x ≤ 9999999999) : (bs (joinL (NS.map numL))).size ≤ k * 11 := by
  rw [bs_size]
  have := joinL_le (NS.map numL) 10 (by intro l hl; obtain ⟨x, hx, rfl⟩ := List.mem_map.1 hl; exact numL_le x (h x hx).2)
  rw [List.length_map] at this
  exact Nat.le_trans this (Nat.mul_le_mul hk (Nat.le_refl _))
structure CallV where
  th : Int
  ix : Int
  inv : Int
  took : Int
  rank : Int
  ans : Int
  steps : Int
abbrev callCells (k : CallV) (o : OpV) (r : ResV) (A : Option Addr) (n c : Nat) : Array Value := #[.int .i64 k.th, .int .i64 k.ix, .int .u8 o.kind, .int .i64 o.slot, .int .i64 o.pos, .int .i64 o.num, .int .u32 o.id, .int .u8 o.grav, .string o.text, .int .i64 k.inv, .int .i64 k.took, .int .i64 k.rank, .int .i64 k.ans, .int .i64 k.steps, .int .i64 r.err, .int .i64 r.rev, .int .i64 r.slot, .int .i64 r.pos, .int .u8 r.grav, .string r.text, .int .i64 r.mb, .int .i64 r.mr, .int .i64 r.ml, .int .u8 r.ik, .int .i64 r.ifr, .int .i64 r.ito, .slice A n c]
abbrev callBox (k : CallV) (o : OpV) (r : ResV) (A : Option Addr) (n c : Nat) : Obj := .cells (callCells k o r A n c) 34
def numsC (k : CallV) : List Int := [k.th, k.ix, k.inv, k.took, k.rank, k.ans, k.steps]
def lineL (k : CallV) (o : OpV) (r : ResV) (ps : List PieceV) : List Int := joinL ((numsC k).map numL) ++ [32] ++ opL o ++ [32, 58, 32] ++ resL r ps
def okC (x : Int) : Prop := -1 ≤ x ∧ x ≤ 9999999999
def lineOk (k : CallV) (o : OpV) (r : ResV) (ps : List PieceV) : Prop := plainB o = true ∧ resOk r ps ∧ ∀ x ∈ numsC k, okC x
noncomputable instance (k : CallV) (o : OpV) (r : ResV) (ps : List PieceV) : Decidable (lineOk k o r ps) := by unfold lineOk okC; infer_instance
def LineRes (k : CallV) (o : OpV) (r : ResV) (ps : List PieceV) (w : World) (e : Ending) (w' : World) : Prop :=
  (if lineOk k o r ps then e = .returned (.tuple #[.string (bs (lineL k o r ps)), .int .i64 0]) else e = .returned (.tuple #[.string ⟨#[]⟩, .int .i64 2])) ∧ Below w.heap.size w w'
theorem lineRes_no {k : CallV} {o : OpV} {r : ResV} {ps : List PieceV} {w w' : World} (h : ¬ lineOk k o r ps) (hb : Below w.heap.size w w') : LineRes k o r ps w (.returned (.tuple #[.string ⟨#[]⟩, .int .i64 2])) w' := ⟨by rw [if_neg h], hb⟩
theorem lineRes_yes {k : CallV} {o : OpV} {r : ResV} {ps : List PieceV} {w w' : World} {s : ByteArray} (h : lineOk k o r ps) (hs : s = bs (lineL k o r ps)) (hb : Below w.heap.size w w') : LineRes k o r ps w (.returned (.tuple #[.string s, .int .i64 0])) w' := ⟨by rw [if_pos h, hs], hb⟩
theorem callCells_num {W : World} {b : Nat} {k : CallV} {o : OpV} {r : ResV} {A : Option Addr} {n c : Nat} (h : W.heap[b]? = some (callBox k o r A n c)) :
    W.cell? ⟨b, 0, none⟩ = some (.int .i64 k.th) ∧ W.cell? ⟨b, 1, none⟩ = some (.int .i64 k.ix) ∧ W.cell? ⟨b, 9, none⟩ = some (.int .i64 k.inv) ∧ W.cell? ⟨b, 10, none⟩ = some (.int .i64 k.took) ∧ W.cell? ⟨b, 11, none⟩ = some (.int .i64 k.rank) ∧ W.cell? ⟨b, 12, none⟩ = some (.int .i64 k.ans) ∧ W.cell? ⟨b, 13, none⟩ = some (.int .i64 k.steps) := by
  refine ⟨?_, ?_, ?_, ?_, ?_, ?_, ?_⟩ <;> (rw [cell_of_row _ _ _ _ _ _ h]; rfl)
theorem callCells_op {W : World} {b : Nat} {k : CallV} {o : OpV} {r : ResV} {A : Option Addr} {n c : Nat} (h : W.heap[b]? = some (callBox k o r A n c)) :
    W.cell? ⟨b, 2, none⟩ = some (.int .u8 o.kind) ∧ W.cell? ⟨b, 3, none⟩ = some (.int .i64 o.slot) ∧ W.cell? ⟨b, 4, none⟩ = some (.int .i64 o.pos) ∧ W.cell? ⟨b, 5, none⟩ = some (.int .i64 o.num) ∧ W.cell? ⟨b, 6, none⟩ = some (.int .u32 o.id) ∧ W.cell? ⟨b, 7, none⟩ = some (.int .u8 o.grav) ∧ W.cell? ⟨b, 8, none⟩ = some (.string o.text) := by
  refine ⟨?_, ?_, ?_, ?_, ?_, ?_, ?_⟩ <;> (rw [cell_of_row _ _ _ _ _ _ h]; rfl)
theorem callCells_res {W : World} {b : Nat} {k : CallV} {o : OpV} {r : ResV} {A : Option Addr} {n c : Nat} (h : W.heap[b]? = some (callBox k o r A n c)) :
    W.cell? ⟨b, 14, none⟩ = some (.int .i64 r.err) ∧ W.cell? ⟨b, 15, none⟩ = some (.int .i64 r.rev) ∧ W.cell? ⟨b, 16, none⟩ = some (.int .i64 r.slot) ∧ W.cell? ⟨b, 17, none⟩ = some (.int .i64 r.pos) ∧ W.cell? ⟨b, 18, none⟩ = some (.int .u8 r.grav) ∧ W.cell? ⟨b, 19, none⟩ = some (.string r.text) ∧ W.cell? ⟨b, 20, none⟩ = some (.int .i64 r.mb) ∧ W.cell? ⟨b, 21, none⟩ = some (.int .i64 r.mr) ∧ W.cell? ⟨b, 22, none⟩ = some (.int .i64 r.ml) ∧ W.cell? ⟨b, 23, none⟩ = some (.int .u8 r.ik) ∧ W.cell? ⟨b, 24, none⟩ = some (.int .i64 r.ifr) ∧ W.cell? ⟨b, 25, none⟩ = some (.int .i64 r.ito) ∧ W.cell? ⟨b, 26, none⟩ = some (.slice A n c) := by
  refine ⟨?_, ?_, ?_, ?_, ?_, ?_, ?_, ?_, ?_, ?_, ?_, ?_, ?_⟩ <;> (rw [cell_of_row _ _ _ _ _ _ h]; rfl)
theorem opL_le (o : OpV) (hp : PlainOp o) (ht : OpTy o) : (opL o).length ≤ 4004 := by
  have k1 := hp.kind.1
  have k2 := hp.kind.2
  have := joinL_le (nameL o.kind :: (lettersL o.kind).map (fieldL o)) 1000 (by
    intro l hl
    rcases List.mem_cons.1 hl with rfl | hl
    · exact nameL_le k1 k2
    · obtain ⟨x, hx, rfl⟩ := List.mem_map.1 hl
      exact fieldL_le o x hp ht)
  have hb := (letters_bd k1 k2).1
  rw [List.length_cons, List.length_map] at this
  have h2 : ((lettersL o.kind).length + 1) * (1000 + 1) ≤ 4 * 1001 := Nat.mul_le_mul (by omega) (by omega)
  unfold opL; omega
set_option maxRecDepth 100000 in
theorem resL_le (r : ResV) (ps : List PieceV) (h : resOk r ps) (htx : r.text.size ≤ 1000) (hl : ps.length ≤ 20) (hpt : ∀ p ∈ ps, p.text.size ≤ 1000) : (resL r ps).length ≤ 13 * 60001 := by
  unfold resL
  unfold resOk at h
  by_cases he : r.err = 0
  · rw [if_pos he] at h ⊢
    have hd : ∀ x : Int, okN x → (decL x.toNat).length ≤ 60000 := fun x hx => by have := dec_le x hx.1 hx.2; omega
    have := joinL_le (resParts r ps) 60000 (by
      intro l hm
      rw [resParts_eq] at hm
      simp only [decs, List.mem_append, List.mem_singleton, List.mem_map] at hm
      rcases hm with (((rfl | ⟨x, hx, rfl⟩) | rfl) | ⟨x, hx, rfl⟩) | hm
      · simp
      · exact hd x (h.1 x hx)
      · rw [quoteL_len]; omega
      · exact hd x (h.2.1 x hx)
      · by_cases hD : deltaL ps = []
        · rw [if_pos hD] at hm; cases hm
        · rw [if_neg hD] at hm; simp at hm; subst hm; exact deltaL_le ps hl hpt h.2.2)
    have hn : (resParts r ps).length ≤ 13 := by
      rw [resParts_eq]
      simp only [decs, numsA, numsB, List.length_append, List.length_map, List.length_cons, List.length_nil]
      split <;> simp
    exact Nat.le_trans this (Nat.mul_le_mul hn (Nat.le_refl _))
  · rw [if_neg he] at h ⊢
    have := dec_le r.err h.1.1 h.1.2
    rw [List.length_append]; simp; omega
set_option maxHeartbeats 0 in
set_option maxRecDepth 100000 in
theorem lineFn (k : CallV) (o : OpV) (r : ResV) (A : Option Addr) (c : Nat) (ps : List PieceV) (w : World) (hT : Tab w) (hto : OpTy o) (ht : ResTy r) (htx : r.text.size ≤ 1000) (hP : PiecesAt w w.heap.size A ps) (hl : ps.length ≤ 20) (hpt : ∀ p ∈ ps, p.text.size ≤ 1000) :
    Calls Tryd.prog 4 #[.agg (callCells k o r A ps.length c)] w (LineRes k o r ps w) := by
  have HB := Lib.hid (below_box w (callBox k o r A ps.length c))
  have HT := Lib.hid (hT.below (below_box w (callBox k o r A ps.length c)))
  have HBX : Hid ((w.alloc (callBox k o r A ps.length c)).heap[w.heap.size]? = some (callBox k o r A ps.length c)) := heap_alloc_new _ _
  have HO := Lib.hid (textOp o _ hto HT.out)
  have HRS := Lib.hid (fun (V : World) (hV : Tab V) (h : Below w.heap.size w V) => textResult r A c ps V hV ht htx (hP.below h h.size) hl hpt)
  have HR1 : Hid (∀ W, ¬ lineOk k o r ps → Below w.heap.size w W → LineRes k o r ps w (.returned (.tuple #[.string ⟨#[]⟩, .int .i64 2])) W) := fun W h hb => lineRes_no h hb
  have HR2 : Hid (∀ W, lineOk k o r ps → Below w.heap.size w W → LineRes k o r ps w (.returned (.tuple #[.string (bs (lineL k o r ps)), .int .i64 0])) W) := fun W h hb => lineRes_yes h rfl hb
  have HLL : Hid (bs (lineL k o r ps) = bs (joinL ((numsC k).map numL)) ++ (⟨#[32]⟩ : ByteArray) ++ bs (opL o) ++ (⟨#[32, 58, 32]⟩ : ByteArray) ++ bs (resL r ps)) := by
    show _ = _
    rw [show (⟨#[32]⟩ : ByteArray) = bs [32] from rfl, show (⟨#[32, 58, 32]⟩ : ByteArray) = bs [32, 58, 32] from rfl, bs_app, bs_app, bs_app, bs_app]; rfl
  have HOL : Hid (plainB o = true → (bs (opL o)).size ≤ 4004) := fun h => by rw [bs_size]; exact opL_le o (Classical.byContradiction fun hn => by rw [plainB_no hn] at h; cases h) hto
  have HRL : Hid (resOk r ps → (bs (resL r ps)).size ≤ 13 * 60001) := fun h => by rw [bs_size]; exact resL_le r ps h htx hl hpt
  have HOK : Hid (lineOk k o r ps ↔ plainB o = true ∧ resOk r ps ∧ ∀ x ∈ numsC k, okC x) := Iff.rfl
  unfold OpRes at HO
  unfold ResRes at HRS
  generalize opL o = OL at *
  generalize resL r ps = RL at *
  generalize lineOk k o r ps = LO at *
  generalize ps.length = n at *
  by_cases hp : plainB o = true
  case neg =>
    have hno : ¬ LO := fun h => hp (HOK.out.1 h).1
    simp only [if_neg hp] at HO
    clear hT hto ht htx hP hl hpt
    obtain ⟨o0, o1, o2, o3, o4, o5, o6⟩ := o
    go_enter Tryd.func4, Tryd.ntmps4
    go_wp2_with fail
    refine HO.out.mono ?_
    rintro e w1 ⟨rfl, hb1⟩
    have HB1 := Lib.hid (below_then HB.out HB.out.size hb1)
    clear hb1
    go_wp2_with fail
    go_ret2
    exact HR1.out _ hno HB1.out
  simp only [if_pos hp] at HO
  have hos := HOL.out hp
  have HP := Lib.hid hp
  clear hT hto ht htx hP hl hpt hp HOL
  obtain ⟨o0, o1, o2, o3, o4, o5, o6⟩ := o
  obtain ⟨x0, x1, x2, x3, x4, x5, x6, x7, x8, x9, x10, x11⟩ := r
  obtain ⟨k0, k1, k2, k3, k4, k5, k6⟩ := k
  go_enter Tryd.func4, Tryd.ntmps4
  go_upto_region 1 with fail
  generalize Value.agg (callCells _ _ _ _ _ _) = v0
  generalize hrb : w.heap.size = rb at HBX ⊢
  generalize w.alloc (callBox _ _ _ _ _ _) = W0 at *
  obtain ⟨d0, d1, d2, d3, d4, d5, d6⟩ := callCells_op HBX.out
  dsimp only at d0 d1 d2 d3 d4 d5 d6
  go_wp2_with fail
  refine HO.out.mono ?_
  rintro e w1 ⟨rfl, hb1⟩
  have HB1 := Lib.hid (below_then HB.out HB.out.size hb1)
  have HT1 := Lib.hid (HT.out.below hb1)
  have HX1 := Lib.hid ((hb1.block rb (heap_lt HBX.out)).trans HBX.out)
  clear hb1 HB HT HBX HO d0 d1 d2 d3 d4 d5 d6
  obtain ⟨c0, c1, c2, c3, c4, c5, c6, c7, c8, c9, c10, c11, c12⟩ := callCells_res HX1.out
  dsimp only at c0 c1 c2 c3 c4 c5 c6 c7 c8 c9 c10 c11 c12
  have HRS1 := Lib.hid (HRS.out _ HT1.out HB1.out)
  have h00 : ((0 : Int) != 0) = false := by decide
  go_wp2_with fail
  refine HRS1.out.mono ?_
  rintro e w2 ⟨hres, hb2⟩
  have HB2 := Lib.hid (below_then HB1.out HB1.out.size hb2)
  have HT2 := Lib.hid (HT1.out.below hb2)
  have HX2 := Lib.hid ((hb2.block rb (heap_lt HX1.out)).trans HX1.out)
  clear hb2 HB1 HT1 HX1 HRS HRS1 c0 c1 c2 c3 c4 c5 c6 c7 c8 c9 c10 c11 c12
  by_cases hr : resOk ⟨x0, x1, x2, x3, x4, x5, x6, x7, x8, x9, x10, x11⟩ ps
  case neg =>
    rw [if_neg hr] at hres
    subst hres
    have hno := fun h => hr (HOK.out.1 h).2.1
    go_wp2_with fail
    go_ret2
    exact HR1.out _ hno HB2.out
  rw [if_pos hr] at hres
  subst hres
  have hrs := HRL.out hr
  have HRK := Lib.hid hr
  clear hr HRL
  obtain ⟨e0, e1, e2, e3, e4, e5, e6⟩ := callCells_num HX2.out
  dsimp only at e0 e1 e2 e3 e4 e5 e6
  have HAC := Lib.hid (fun j (hj : j < 7) => args_cell [k0, k1, k2, k3, k4, k5, k6] w2 j hj)
  have HB3 := Lib.hid (HB2.out.alloc HB2.out.size (argsBox [k0, k1, k2, k3, k4, k5, k6]))
  have HT3 := Lib.hid (HT2.out.below (below_box w2 (argsBox [k0, k1, k2, k3, k4, k5, k6])))
  have HLO := Lib.hid (HOK.out.2 : _ → LO)
  have HLN := Lib.hid (fun (h : LO) => (HOK.out.1 h).2.2)
  generalize hns : numsC ⟨k0, k1, k2, k3, k4, k5, k6⟩ = NS at *
  have HNS : Hid (NS = [k0, k1, k2, k3, k4, k5, k6]) := hns.symm
  have hn7 : NS.length = 7 := by rw [HNS.out]; rfl
  have HN7 := Lib.hid hn7
  rw [← HNS.out] at HAC HB3 HT3
  have HNF := Lib.hid (fun (h : ∀ x ∈ NS, -1 ≤ x ∧ x ≤ 9999999999) => numbersFn (some ⟨w2.heap.size, 0, none⟩) 7 NS (w2.alloc (argsBox NS)) HT3.out (fun _ => ⟨w2.heap.size, 0, rfl, by simp, fun j hj => by rw [Nat.zero_add]; exact HAC.out j (by omega)⟩) (by omega) (by omega) h)
  rw [hn7] at HNF
  unfold StrRes at HNF
  have HNZ := Lib.hid (fun (h : ∀ x ∈ NS, -1 ≤ x ∧ x ≤ 9999999999) => nums_le NS 7 (by omega) h)
  clear hns hn7 HT2 HB2 HX2
  go_wp2_with fail
  rw [show Obj.cells #[.int .i64 k0, .int .i64 k1, .int .i64 k2, .int .i64 k3, .int .i64 k4, .int .i64 k5, .int .i64 k6] 3 = argsBox NS from by rw [HNS.out]; rfl]
  generalize hW3 : w2.alloc (argsBox NS) = W3 at *
  generalize w2.heap.size = ab at *
  clear e0 e1 e2 e3 e4 e5 e6 hW3
  go_loopw [45] (fun jv wr => ∃ (j : Nat), j ≤ 7 ∧ jv = .int .i64 j ∧ Hid (∀ y ∈ NS.take j, okC y) ∧ wr = W3) (fun jv _ => 7 - (intOf jv).toNat)
  case atStart => exact ⟨0, by omega, rfl, by intro y hy; simp at hy, rfl⟩
  case round =>
    obtain ⟨j, hj, rfl, HOS, rfl⟩ := hrel
    by_cases hj7 : j < 7
    · have hji : (j : Int) < 7 := by omega
      have hcx := HAC.out j hj7
      have HTK := Lib.hid (take_snoc (getD_at 0 NS j (by rw [HN7.out]; exact hj7)))
      have hmem := getD_mem 0 NS j (by rw [HN7.out]; exact hj7)
      generalize NS.getD j 0 = x at *
      by_cases hx0 : x < -1
      · have hno : ¬ LO := fun h => by have := HLN.out h x hmem; unfold okC at this; omega
        go_wp2_with fail
        go_ret2
        exact HR1.out _ hno HB3.out
      · by_cases hx1 : 9999999999 < x
        · have hno : ¬ LO := fun h => by have := HLN.out h x hmem; unfold okC at this; omega
          go_wp2_with fail
          go_ret2
          exact HR1.out _ hno HB3.out
        · have HOS2 : Hid (∀ y ∈ NS.take (j + 1), okC y) := by
            intro y hy
            rw [HTK.out] at hy
            rcases List.mem_append.1 hy with hy | hy
            · exact HOS.out y hy
            · simp at hy; subst hy; exact ⟨by omega, by omega⟩
          clear hmem HTK
          go_wp2_with fail
          go_roundw
          case rel => exact ⟨j + 1, by omega, by go_num, HOS2.out, by first | rfl | trivial⟩
          case measure => simp [intOf]; omega
    · obtain rfl : j = 7 := by omega
      rw [List.take_of_length_le (by rw [HN7.out]; omega)] at HOS
      have HYES := Lib.hid (HLO.out ⟨HP.out, HRK.out, HOS.out⟩)
      have HNF2 := Lib.hid (HNF.out HOS.out)
      have hz := HNZ.out HOS.out
      clear HNF HNZ HAC HOS HLO HLN
      go_wp2_with fail
      refine HNF2.out.mono ?_
      rintro e w4 ⟨rfl, hb4⟩
      have HB4 := Lib.hid (below_then HB3.out HB3.out.size hb4)
      clear hb4 HNF2
      generalize hs1 : bs (joinL (NS.map numL)) = t1 at *
      have hz2 : (t1 ++ (⟨#[32]⟩ : ByteArray)).size ≤ 200 := by rw [ByteArray.size_append, show (⟨#[32]⟩ : ByteArray).size = 1 from rfl]; omega
      have hz3 : (t1 ++ (⟨#[32]⟩ : ByteArray) ++ bs OL).size ≤ 5000 := by rw [ByteArray.size_append]; omega
      have hz4 : (t1 ++ (⟨#[32]⟩ : ByteArray) ++ bs OL ++ (⟨#[32, 58, 32]⟩ : ByteArray)).size ≤ 5010 := by rw [ByteArray.size_append, show (⟨#[32, 58, 32]⟩ : ByteArray).size = 3 from rfl]; omega
      go_wp2_with fail
      go_ret2
      rw [← HLL.out]
      exact HR2.out _ HYES.out HB4.out
end Go.Proofs.YtcbhfhmpajamoaaDoor
